/- Functions of the program as plain functions, with the proof that the code computes them: printed by gen.py of this session. -/
import Derived.Test.YtmhkokkphgchlaaGreatDoorProg
import Derived.Test.YtmhkokkphgchlaaGreatDoorQ33xCostJust
import Derived.Test.YtmhkokkphgchlaaGreatDoorQ40xCostJust
import Derived.Ground.GgzProg
import Derived.Ground.Names8Prog
import Derived.Ground.NamesProg
import Derived.Ground.SlgcProg
import Derived.Ground.SlgmProg
import Derived.Ground.SlgnProg
import Derived.Ground.SlsfProg
import Derived.Shelf.Bits.Mul64
import Derived.Shelf.Lay
import Derived.Shelf.SlGeneric
import Derived.Shelf.SlIterI.Nil
import Derived.Shelf.SlSortCmp.WholeK
import Derived.Shelf.SlicesE.Reverse
import Derived.Shelf.SlicesG.Cmp
import Derived.Shelf.SlicesG.CompactI
import Derived.Shelf.Small.Bits
import Derived.Shelf.SortM.Plain
import Derived.Shelf.SortM.SortNone
import Derived.Shelf.Spec.SlicesGrow
import Derived.Test.YtmhkokkphgchlaaGreatDoorGCostJustp1
set_option linter.unusedVariables false
set_option linter.unusedSimpArgs false
set_option maxRecDepth 20000
set_option maxHeartbeats 2000000
set_option linter.defProp false
set_option warn.classDefReducibility false
noncomputable section
namespace Go.Proofs.YtmhkokkphgchlaaGreatDoor
open Go.Q
attribute [local irreducible] CP SP QE DA DT Val St
def types_look_named_s1.j1 (k_0_2 : List api_Value) (k_0_4 : List api_Value) (k_0_6 : List api_Method) (k_0_8 : Int) (k_0_9 : List Int) (k_0_11 : List Int) (k_0_13 : Int) (k_0_14 : Bool) (k_0_15 : Int) (k_0_16 : Int) (k_0_17 : Int) (k_0_18 : List api_Instr) (k_0_20 : List Int) (l22 : List types_Row) (i_1 : api_Instr) (b30 : Bool) : Option (Int × (List types_Row)) :=
  if b30 = true then ((elt k_0_2 i_1.A).bind fun x33 => some (x33.Kind, l22)) else ((elt k_0_20 i_1.A).bind fun x38 => some (x38, l22))
def types_look_named_s1.f (k_0_2 : List api_Value) (k_0_4 : List api_Value) (k_0_6 : List api_Method) (k_0_8 : Int) (k_0_9 : List Int) (k_0_11 : List Int) (k_0_13 : Int) (k_0_14 : Bool) (k_0_15 : Int) (k_0_16 : Int) (k_0_17 : Int) (k_0_18 : List api_Instr) (k_0_20 : List Int) (l22 : List types_Row) (i_1 : api_Instr) : Option (Int × (List types_Row)) :=
  if i_1.Op = 1 then ((elt k_0_4 i_1.A).bind fun x27 => some (x27.Kind, l22)) else (if i_1.Op = 4 then (types_look_named_s1.j1 k_0_2 k_0_4 k_0_6 k_0_8 k_0_9 k_0_11 k_0_13 k_0_14 k_0_15 k_0_16 k_0_17 k_0_18 k_0_20 l22 i_1 (decide (i_1.Op = 4))) else (types_look_named_s1.j1 k_0_2 k_0_4 k_0_6 k_0_8 k_0_9 k_0_11 k_0_13 k_0_14 k_0_15 k_0_16 k_0_17 k_0_18 k_0_20 l22 i_1 (decide (i_1.Op = 5))))
theorem types_look_named_s1.ok (k_0_2 : List api_Value) (k_0_4 : List api_Value) (k_0_6 : List api_Method) (k_0_8 : Int) (k_0_9 : List Int) (k_0_11 : List Int) (k_0_13 : Int) (k_0_14 : Bool) (k_0_15 k_0_16 k_0_17 : Int) (k_0_18 : List api_Instr) (k_0_20 : List Int) (l22 : List types_Row) (i_1 : api_Instr) (v_k_0_2 v_k_0_4 : Value) (v_k_0_6 v_k_0_9 : Value) (v_k_0_11 v_k_0_18 v_k_0_20 : Value) (r : Int × (List types_Row)) (H : types_look_named_s1.f k_0_2 k_0_4 k_0_6 k_0_8 k_0_9 k_0_11 k_0_13 k_0_14 k_0_15 k_0_16 k_0_17 k_0_18 k_0_20 l22 i_1 = some r) (w : World) (hV : Hp) (sV : Sub hV (hp w)) (h0 : slR k_api_Value hV v_k_0_2 k_0_2) (h1 : slR k_api_Value hV v_k_0_4 k_0_4) (h2 : slR k_api_Method hV v_k_0_6 k_0_6) (h3 : slR (kInt .u8) hV v_k_0_9 k_0_9) (h4 : slR (kInt .u8) hV v_k_0_11 k_0_11) (h5 : slR k_api_Instr hV v_k_0_18 k_0_18) (h6 : slR (kInt .u8) hV v_k_0_20 k_0_20) (b1 : Nat) (hA : Hp) (sA : Sub hA (hp w)) (dA : Dj hV hA) (hI : (arrK k_types_Row b1 [v_k_0_2, v_k_0_4, v_k_0_6, .int .i64 k_0_8, v_k_0_9, v_k_0_11, .int .u8 k_0_13, .bool k_0_14, .int .i64 k_0_15, .int .i64 k_0_16, .int .i64 k_0_17, v_k_0_18, v_k_0_20] 200 l22 [] 97).p hV hA) :
    Trip Tryz.prog 135 [.pointer (some ⟨b1, 0, none⟩), .agg #[.int .u8 i_1.Op, .int .i64 i_1.A, .int .i64 i_1.B]].toArray hA hV w (fun v => HO.pand (v = .int .u8 r.1) (HO.seps [arrK k_types_Row b1 [v_k_0_2, v_k_0_4, v_k_0_6, .int .i64 k_0_8, v_k_0_9, v_k_0_11, .int .u8 k_0_13, .bool k_0_14, .int .i64 k_0_15, .int .i64 k_0_16, .int .i64 k_0_17, v_k_0_18, v_k_0_20] 200 r.2 [] 97])) := by
 have see : Sees w hA hV := ⟨sV, dA⟩
 refine Trip.of (P := Tryz.prog) (n := ⟨40, []⟩) Tryz.func135 rfl ⟨rfl, rfl⟩ rfl (St.beginA (os := [arrK k_types_Row b1 [v_k_0_2, v_k_0_4, v_k_0_6, .int .i64 k_0_8, v_k_0_9, v_k_0_11, .int .u8 k_0_13, .bool k_0_14, .int .i64 k_0_15, .int .i64 k_0_16, .int .i64 k_0_17, v_k_0_18, v_k_0_20] 200 l22 [] 97]) sA (aS h0 (aS h1 (aS h2 (aS h3 (aS h4 (aS h5 (aS h6 (All.nil _)))))))) ⟨hA, em, Dj.em_right _, Sub.refl _, Sub.em _, hI, trivial⟩) ?_
 have ho := H
 refine go ?_
 refine SP.box rfl rfl rfl rfl fun b23 => go ?_
 refine CP.seq (go ?_)
 refine CP.ci ho (fun ho => ?_) fun ho => ?_
 ·refine CP.seq ?_
  refine CP.drawA (by kernel_rfl) (fun w2 k h => h.drawn k) ?_
  refine DA.ph 0 7 ?_
  refine DT.tk 0 ?_
  refine DT.tk 1 ?_
  refine DT.tk 2 ?_
  refine DT.tk 3 ?_
  refine DT.tv 4 rfl (Val.loadKPre1 see 1 rfl Tryz.underlying22 rfl rfl rfl) ?_
  refine DT.tk 5 ?_
  refine DT.tk 6 ?_
  refine DT.next (by kernel_rfl) ?_
  refine DA.one 7 rfl (by kernel_rfl) ?_
  obtain ⟨x27, hx, ho⟩ := elt_bind ho
  refine SP.indexP see 1 rfl Tryz.underlying22 sz62 hx.1 hx.2 rfl rfl rfl rfl (fun p25 => ?_)
  clear hx
  refine go ?_
  refine QE.atA ?_
  refine DA.one 8 rfl (by kernel_rfl) ?_
  refine SP.fieldP see 0 rfl Tryz.underlying62 rfl sz5 k_api_Value.part_Kind rfl rfl rfl (fun p28 => go ?_)
  refine QE.atA ?_
  refine DA.one 9 rfl (by kernel_rfl) ?_
  refine SP.val (Val.loadP1 see 0 rfl (fun _ _ e => e) Tryz.underlying5 rfl rfl) rfl rfl rfl (go ?_)
  refine QE.atA ?_
  refine DA.one 10 rfl (by kernel_rfl) (go ?_)
  refine QE.atA ?_
  refine DA.done (by kernel_rfl) (go ?_)
  obtain rfl := Option.some.inj ho
  exact QE.rt (fun _ h => St.selO [1] rfl rfl h)
 refine CP.join (fun a w2 => ∃ b30 : Bool, types_look_named_s1.j1 k_0_2 k_0_4 k_0_6 k_0_8 k_0_9 k_0_11 k_0_13 k_0_14 k_0_15 k_0_16 k_0_17 k_0_18 k_0_20 l22 i_1 b30 = some r ∧ Env ⟨40, []⟩ [(0, .pointer (some ⟨b1, 0, none⟩)), (3, .pointer (some ⟨b23, 0, none⟩)), (19, .bool b30)] a ∧ St w hA hV [slP k_api_Value v_k_0_2 k_0_2, slP k_api_Value v_k_0_4 k_0_4, slP k_api_Method v_k_0_6 k_0_6, slP (kInt .u8) v_k_0_9 k_0_9, slP (kInt .u8) v_k_0_11 k_0_11, slP k_api_Instr v_k_0_18 k_0_18, slP (kInt .u8) v_k_0_20 k_0_20] [boxO b23 [.int .u8 i_1.Op, .int .i64 i_1.A, .int .i64 i_1.B] 71, arrK k_types_Row b1 [v_k_0_2, v_k_0_4, v_k_0_6, .int .i64 k_0_8, v_k_0_9, v_k_0_11, .int .u8 k_0_13, .bool k_0_14, .int .i64 k_0_15, .int .i64 k_0_16, .int .i64 k_0_17, v_k_0_18, v_k_0_20] 200 l22 [] 97] w2) ?_ ?_
 ·rintro a w2 ⟨b30, ho, ha, hw⟩
  refine CP.app ha hw ?_
  clear ha hw a w2
  refine CP.cb ho (fun ho => ?_) fun ho => ?_
  ·refine CP.seq ?_
   refine CP.drawA (by kernel_rfl) (fun w2 k h => h.drawn k) ?_
   refine DA.ph 0 7 ?_
   refine DT.tk 0 ?_
   refine DT.tk 1 ?_
   refine DT.tk 2 ?_
   refine DT.tk 3 ?_
   refine DT.tv 4 rfl (Val.loadKPre1 see 1 rfl Tryz.underlying22 rfl rfl rfl) ?_
   refine DT.tk 5 ?_
   refine DT.tk 6 ?_
   refine DT.next (by kernel_rfl) ?_
   refine DA.one 7 rfl (by kernel_rfl) ?_
   obtain ⟨x33, hx, ho⟩ := elt_bind ho
   refine SP.indexP see 0 rfl Tryz.underlying22 sz62 hx.1 hx.2 rfl rfl rfl rfl (fun p31 => ?_)
   clear hx
   refine go ?_
   refine QE.atA ?_
   refine DA.one 8 rfl (by kernel_rfl) ?_
   refine SP.fieldP see 0 rfl Tryz.underlying62 rfl sz5 k_api_Value.part_Kind rfl rfl rfl (fun p34 => go ?_)
   refine QE.atA ?_
   refine DA.one 9 rfl (by kernel_rfl) ?_
   refine SP.val (Val.loadP1 see 0 rfl (fun _ _ e => e) Tryz.underlying5 rfl rfl) rfl rfl rfl (go ?_)
   refine QE.atA ?_
   refine DA.one 10 rfl (by kernel_rfl) (go ?_)
   refine QE.atA ?_
   refine DA.done (by kernel_rfl) (go ?_)
   obtain rfl := Option.some.inj ho
   exact QE.rt (fun _ h => St.selO [1] rfl rfl h)
  refine go ?_
  refine CP.seq ?_
  refine CP.drawA (by kernel_rfl) (fun w2 k h => h.drawn k) ?_
  refine DA.ph 0 6 ?_
  refine DT.tk 0 ?_
  refine DT.tk 1 ?_
  refine DT.tk 2 ?_
  refine DT.tv 3 rfl (Val.loadKPre1 see 1 rfl Tryz.underlying38 rfl rfl rfl) ?_
  refine DT.tk 4 ?_
  refine DT.tk 5 ?_
  refine DT.next (by kernel_rfl) ?_
  refine DA.one 6 rfl (by kernel_rfl) ?_
  obtain ⟨x38, hx, ho⟩ := elt_bind ho
  refine SP.indexP see 6 rfl Tryz.underlying38 sz5 hx.1 hx.2 rfl rfl rfl rfl (fun p36 => ?_)
  clear hx
  refine go ?_
  refine QE.atA ?_
  refine DA.one 7 rfl (by kernel_rfl) ?_
  refine SP.val (Val.loadP1 see 0 rfl (fun _ _ e => e) Tryz.underlying5 rfl rfl) rfl rfl rfl (go ?_)
  refine QE.atA ?_
  refine DA.one 8 rfl (by kernel_rfl) (go ?_)
  refine QE.atA ?_
  refine DA.done (by kernel_rfl) (go ?_)
  obtain rfl := Option.some.inj ho
  exact QE.rt (fun _ h => St.selO [1] rfl rfl h)
 refine go ?_
 refine CP.ci ho (fun ho => ?_) fun ho => ?_
 ·refine go ?_
  exact QE.meet fun a w2 ha hw => ⟨(decide (i_1.Op = 4)), ho, ha.sub sb, hw⟩
 refine go ?_
 exact QE.meet fun a w2 ha hw => ⟨(decide (i_1.Op = 5)), ho, ha.sub sb, hw⟩
shelf_lay_g SlLaysE.n35 Slgn 35 at Tryz 136 as Tryz.reverse136
theorem reverse136_trip {v : Value} {l : List Int} (hll : l.length < 4611686018427387904) {w : World} {hP h1 : Hp} (sub : Sub hP (hp w)) (s1 : Sub h1 (hp w)) (dj : Dj hP h1) (hI : (slO (kInt .u8) 5 v l).p hP h1) :
    Trip Tryz.prog 136 #[v] h1 hP w (fun r => HO.pand (r = .tuple #[]) (HO.seps [slO (kInt .u8) 5 v l.reverse])) := by
  have h := slO.rowTrip (P := Tryz.prog) (f := 136) (fun v => #[v]) (fun _ => .tuple #[]) (fun x => [Value.int .u8 x]) (fun h cs x => Iff.rfl) (fun d : Array Int => d.toList.reverse.toArray) (fun d => by simp) (fun blk cap d w hH hb hsz _ _ => ?_) (fun _ w hV sV => ?_) hll sub s1 dj hI
  · simpa using h
  · have := AnyE.slices_Reverse Tryz.reverse136 (Value.int .u8) (fun _ => rfl) blk 0 cap d.toList w (holdsOne.1 hH) (by simp; omega)
    refine this.mono fun e w' ⟨h1, n, h2⟩ => ⟨h1, n, #[], h2.trans (Eq.trans ?_ (Eq.symm sortOne))⟩
    rw [grow_none]
  · refine (AnyE.slices_Reverse_empty Tryz.reverse136 none 0 w).mono fun e w' ⟨he, hw⟩ => ?_
    subst hw
    exact ⟨_, he, Met.refl _, fun _ _ e _ => e, em, em, fun _ _ _ => rfl, fun _ _ _ => rfl, Dj.em_left _, Sub.em _, Sub.em _, rfl⟩
shelf_lay Lays.n212 Nm 212 at Tryz as Tryz.bitsMul116
def math_bits_Mul.f (x : Int) (y : Int) : Option (Int × Int) := if 0 ≤ x ∧ x < 18446744073709551616 ∧ 0 ≤ y ∧ y < 18446744073709551616 then some (x * y / 18446744073709551616, x * y % 18446744073709551616) else none
theorem math_bits_Mul.ok (x : Int) (y : Int) (r : Int × Int) (H : math_bits_Mul.f x y = some r) (w : World) (hV : Hp) (sV : Sub hV (hp w)) :
    Trip Tryz.prog 116 [.int .u64 x, .int .u64 y].toArray em hV w (fun v => HO.pure (v = .tuple #[.int .u64 r.1, .int .u64 r.2])) := by
  unfold math_bits_Mul.f at H
  obtain ⟨⟨h1, h2, h3, h4⟩, H⟩ := must_some H
  obtain rfl := Option.some.inj H
  obtain ⟨a, rfl⟩ := Int.eq_ofNat_of_zero_le h1
  obtain ⟨b, rfl⟩ := Int.eq_ofNat_of_zero_le h3
  refine (Any.bits_Mul Tryz.bitsMul116 a b (by omega) (by omega) w).mono fun e w' ⟨he, hw⟩ => ?_
  subst hw
  refine ⟨_, he, Met.refl _, fun _ _ e _ => e, em, em, fun _ _ _ => rfl, fun _ _ _ => rfl, Dj.em_left _, Sub.em _, Sub.em _, ?_⟩
  show Value.tuple _ = Value.tuple _
  simp
inductive slices_Repeat_uint8_uint8.S where
  | start
  | l1 (l12 : List Int) (x14 : Int)
def slices_Repeat_uint8_uint8.j2 (x_0 : (List Int)) (count_1 : Int) (t3 : Int × Int) : Option (slices_Repeat_uint8_uint8.S ⊕ (List Int)) :=
  if (0 : Int) ≤ (IntKind.i64.wrap t3.2) ∧ (1 : Int) * (IntKind.i64.wrap t3.2) ≤ 281474976710656 ∧ ((IntKind.i64.wrap t3.2) : Int) ≤ 9223372036854775807 then (some (.inl (.l1 (x_0.take (List.replicate (IntKind.i64.wrap t3.2 : Int).toNat 0 : List Int).length ++ (List.replicate (IntKind.i64.wrap t3.2 : Int).toNat 0 : List Int).drop x_0.length) ((min x_0.length (List.replicate (IntKind.i64.wrap t3.2 : Int).toNat 0 : List Int).length : Nat) : Int)))) else none
def slices_Repeat_uint8_uint8.j1 (x_0 : (List Int)) (count_1 : Int)  : Option (slices_Repeat_uint8_uint8.S ⊕ (List Int)) :=
  (math_bits_Mul.f (IntKind.u64.wrap (x_0.length : Int)) (IntKind.u64.wrap count_1)).bind fun t3 => if ((decide (t3.1 > 0)) || (decide (t3.2 > 9223372036854775807))) = true then (none) else (slices_Repeat_uint8_uint8.j2 x_0 count_1 t3)
def slices_Repeat_uint8_uint8.F (x_0 : (List Int)) (count_1 : Int) : slices_Repeat_uint8_uint8.S → Option (slices_Repeat_uint8_uint8.S ⊕ (List Int))
  | .start => if count_1 < 0 then (none) else (slices_Repeat_uint8_uint8.j1 x_0 count_1)
  | .l1 l12 x14 => if x14 < (l12.length : Int) then (if (0 : Int) ≤ x14 ∧ x14 ≤ (l12.length : Int) then (if (0 : Int) ≤ x14 ∧ x14 ≤ (l12.length : Int) then (some (.inl (.l1 (l12.take (x14 : Int).toNat ++ l12.take (min (x14 : Int).toNat (l12.length - (x14 : Int).toNat)) ++ l12.drop ((x14 : Int).toNat + min (x14 : Int).toNat (l12.length - (x14 : Int).toNat))) (IntKind.i64.wrap (x14 + ((min (x14 : Int).toNat (l12.length - (x14 : Int).toNat) : Nat) : Int)))))) else none) else none) else (some (.inr l12))
def slices_Repeat_uint8_uint8.f (x_0 : (List Int)) (count_1 : Int) : Option (List Int) := runF (slices_Repeat_uint8_uint8.F x_0 count_1) .start
theorem slices_Repeat_uint8_uint8.ok (x_0 : (List Int)) (count_1 : Int) (v_x_0 : Value) (r : (List Int)) (H : slices_Repeat_uint8_uint8.f x_0 count_1 = some r) (w : World) (hV : Hp) (sV : Sub hV (hp w)) (h0 : slR (kInt .u8) hV v_x_0 x_0) :
    Trip Tryz.prog 137 [v_x_0, .int .i64 count_1].toArray em hV w (fun v => HO.ex fun u0 : Value => HO.pand (v = u0) (HO.seps [slO (kInt .u8) 5 u0 r])) := by
 refine Trip.go 48 Tryz.func137 sV (aS h0 (All.nil _)) fun see => ?_
 obtain ⟨n0, hi⟩ := runF_iff.1 H
 obtain ⟨m0, o, hm0, ho, hr⟩ := iter_some hi
 clear hi
 refine go ?_
 refine CP.join (fun a w2 => ∃ (m2 : Nat) (o : (slices_Repeat_uint8_uint8.S ⊕ (List Int))), m2 ≤ m0 ∧ slices_Repeat_uint8_uint8.j1 x_0 count_1 = some o ∧ next (slices_Repeat_uint8_uint8.F x_0 count_1) m2 o = some r ∧ Env ⟨48, []⟩ [(0, v_x_0), (1, .int .i64 count_1)] a ∧ St w em hV [slP (kInt .u8) v_x_0 x_0] [] w2) ?_ ?_
 ·rintro a w2 ⟨m2, o, hm_m2, ho, hr, ha, hw⟩
  refine CP.app ha hw ?_
  clear ha hw a w2
  refine go ?_
  refine SP.val (Val.conv (by rw [Tryz.underlying3]; rfl) Tryz.underlying137 rfl) rfl rfl rfl (go ?_)
  refine SP.val (Val.conv (by rw [Tryz.underlying3]; rfl) Tryz.underlying137 rfl) rfl rfl rfl ?_
  obtain ⟨t3, hc, ho⟩ := bind_some ho
  refine SP.callV see (caps := []) (.tuple #[.int .u64 t3.1, .int .u64 t3.2]) fn116 rfl rfl rfl rfl (fun w2 hP hs sub ap => math_bits_Mul.ok _ _  _ hc w2 hP sub ) ?_
  clear hc
  refine go ?_
  refine CP.join (fun a w2 => ∃ (m6 : Nat) (o : (slices_Repeat_uint8_uint8.S ⊕ (List Int))), m6 ≤ m2 ∧ slices_Repeat_uint8_uint8.j2 x_0 count_1 t3 = some o ∧ next (slices_Repeat_uint8_uint8.F x_0 count_1) m6 o = some r ∧ Env ⟨48, []⟩ [(0, v_x_0), (6, .int .u64 t3.2)] a ∧ St w em hV [slP (kInt .u8) v_x_0 x_0] [] w2) ?_ ?_
  ·rintro a w2 ⟨m6, o, hm_m6, ho, hr, ha, hw⟩
   refine CP.app ha hw ?_
   clear ha hw a w2
   refine go ?_
   refine SP.val (Val.conv (by rw [Tryz.underlying137]; rfl) Tryz.underlying3 rfl) rfl rfl rfl ?_
   obtain ⟨hb, ho⟩ := must_some ho
   refine SP.makeO (k := (kInt .u8)) (z := 0) Tryz.underlying38 inf5 rfl (fun _ => rfl) rfl rfl rfl rfl hb (fun v7 => ?_)
   clear hb
   refine go ?_
   refine SP.copyIn see 0 rfl 0 rfl Tryz.underlying38 sz5 rfl rfl rfl rfl rfl (go ?_)
   refine CP.seq (go ?_)
   obtain rfl := Option.some.inj ho
   refine CP.loop (fun cl1 a w2 => ∃ l12 : List Int, ∃ x14 : Int, ∃ v13 : Value, cl1 ≤ m6 ∧ iter (slices_Repeat_uint8_uint8.F x_0 count_1) cl1 (.l1 l12 x14) = some r ∧ Env ⟨48, []⟩ [(7, v13), (8, .int .i64 x14)] a ∧ St w em hV [] [slO (kInt .u8) 5 v13 l12] w2) m6 (fun a w2 ha hw => ⟨(x_0.take (List.replicate (IntKind.i64.wrap t3.2 : Int).toNat 0 : List Int).length ++ (List.replicate (IntKind.i64.wrap t3.2 : Int).toNat 0 : List Int).drop x_0.length), ((min x_0.length (List.replicate (IntKind.i64.wrap t3.2 : Int).toNat 0 : List Int).length : Nat) : Int), v7, Nat.le_refl _, hr, ha.sub sb, (St.selP [] rfl hw)⟩) ?_
   clear hr
   rintro cl1 a w2 ⟨l12, x14, v13, hc_l1, hi, ha, hw⟩
   obtain ⟨m15, o, hm_m15, ho, hr⟩ := iter_some hi
   refine CP.app ha hw ?_
   clear ha hw a w2 hi
   refine CP.seq (go ?_)
   refine SP.val (Val.lenW (fun w2 hw => slO.whole (St.own 0 rfl see.sub see.dj hw)) Tryz.underlying38 rfl) rfl rfl rfl (go ?_)
   refine CP.ci ho (fun ho => ?_) fun ho => ?_
   ·refine go ?_
    refine CP.drawA (by kernel_rfl) (fun w2 k h => h.drawn k) ?_
    refine DA.phase (fun _ => true) (fun _ => True) ?_
    refine DT.take 0 rfl rfl rfl rfl (by kernel_rfl) (fun _ _ _ h => h) (Val.move rfl) (fun _ _ => trivial) ?_
    refine DT.take 1 rfl rfl rfl rfl (by kernel_rfl) (fun _ _ _ h => h) (Val.move rfl) (fun _ _ => trivial) ?_
    refine DT.take 2 rfl rfl rfl rfl (by kernel_rfl) (fun _ _ _ h => h) (Val.move rfl) (fun _ _ => trivial) ?_
    refine DT.take 4 rfl rfl rfl rfl (by kernel_rfl) (fun _ _ _ h => h) (Val.move rfl) (fun _ _ => trivial) ?_
    refine DT.take 5 rfl rfl rfl rfl (by kernel_rfl) (fun _ _ _ h => h) (Val.move rfl) (fun _ _ => trivial) ?_
    refine DT.list (l2 := #[true, true, true, false, true, true, false, false, false, false]) (by kernel_rfl) ?_
    refine DT.free ?_
    obtain ⟨hz16, ho⟩ := must_some ho
    obtain ⟨hz17, ho⟩ := must_some ho
    refine DA.ph 0 7 ?_
    refine DT.tv 3 rfl (Val.sliceFrom see 0 rfl Tryz.underlying38 sz5 rfl rfl hz16) ?_
    refine DT.tv 6 rfl (Val.sliceTo see 0 rfl Tryz.underlying38 sz5 rfl rfl hz17) ?_
    refine DT.next (by kernel_rfl) ?_
    refine DA.one 7 rfl (by kernel_rfl) ?_
    refine SP.copyOver see 0 rfl Tryz.underlying38 sz5 rfl (by omega) rfl rfl rfl rfl (go ?_)
    refine QE.atA ?_
    refine DA.one 8 rfl (by kernel_rfl) (go ?_)
    refine QE.atA ?_
    refine DA.one 9 rfl (by kernel_rfl) (go ?_)
    refine QE.atA ?_
    refine DA.done (by kernel_rfl) (go ?_)
    obtain rfl := Option.some.inj ho
    exact QE.lower m15 (by omega) fun a w2 ha hw => ⟨(l12.take (x14 : Int).toNat ++ l12.take (min (x14 : Int).toNat (l12.length - (x14 : Int).toNat)) ++ l12.drop ((x14 : Int).toNat + min (x14 : Int).toNat (l12.length - (x14 : Int).toNat))), (IntKind.i64.wrap (x14 + ((min (x14 : Int).toNat (l12.length - (x14 : Int).toNat) : Nat) : Int))), v13, (by omega), hr, ha.sub sb, hw⟩
   refine go ?_
   obtain rfl := fin ho hr
   exact QE.rt (fun _ h => St.selO [0] rfl rfl h)
  refine go ?_
  refine SP.jn 3 [0, 6] 26 (.bool ((decide (t3.1 > 0)) || (decide (t3.2 > 9223372036854775807)))) ?_ ?_
  ·refine go ?_
   refine CP.cb ho (fun ho => ?_) fun ho => ?_
   ·cases ho
   refine go ?_
   exact QE.meet fun a w2 ha hw => ⟨m2, _, (by omega), ho, hr, ha.sub sb, hw⟩
  refine SP.bb 23 (fun hq5 => ?_) fun hq5 => ?_
  ·refine go ?_
   exact QE.jb (or_t hq5) fun w2 hw => hw
  refine go ?_
  exact QE.jb (or_f hq5 rfl) fun w2 hw => hw
 refine go ?_
 refine CP.ci ho (fun ho => ?_) fun ho => ?_
 ·cases ho
 refine go ?_
 exact QE.meet fun a w2 ha hw => ⟨m0, _, (by omega), ho, hr, ha.sub sb, hw⟩
def types_look_shape_s1.j1 (k_0_2 : List api_Value) (k_0_4 : List api_Value) (k_0_6 : List api_Method) (k_0_8 : Int) (k_0_9 : List Int) (k_0_11 : List Int) (k_0_13 : Int) (k_0_14 : Bool) (k_0_15 : Int) (k_0_16 : Int) (k_0_17 : Int) (k_0_18 : List api_Instr) (k_0_20 : List Int) (l22 : List types_Row) (i_1 : api_Instr) (row_2 : (List Int)) (l5302 : List types_Row) (l5304 : List Int) (l5307 : List Int) : Option (op_Shape × (List types_Row)) :=
  some ((⟨l5304, l5307⟩ : op_Shape), l5302)
def types_look_shape_s1.j2 (k_0_2 : List api_Value) (k_0_4 : List api_Value) (k_0_6 : List api_Method) (k_0_8 : Int) (k_0_9 : List Int) (k_0_11 : List Int) (k_0_13 : Int) (k_0_14 : Bool) (k_0_15 : Int) (k_0_16 : Int) (k_0_17 : Int) (k_0_18 : List api_Instr) (k_0_20 : List Int) (l22 : List types_Row) (i_1 : api_Instr) (row_2 : (List Int)) (t28 : op_Shape × Bool) (l5300 : List Int) : Option (op_Shape × (List types_Row)) :=
  types_look_shape_s1.j1 k_0_2 k_0_4 k_0_6 k_0_8 k_0_9 k_0_11 k_0_13 k_0_14 k_0_15 k_0_16 k_0_17 k_0_18 k_0_20 l22 i_1 row_2 l22 [0] l5300
def types_look_shape_s1.j4 (k_0_2 : List api_Value) (k_0_4 : List api_Value) (k_0_6 : List api_Method) (k_0_8 : Int) (k_0_9 : List Int) (k_0_11 : List Int) (k_0_13 : Int) (k_0_14 : Bool) (k_0_15 : Int) (k_0_16 : Int) (k_0_17 : Int) (k_0_18 : List api_Instr) (k_0_20 : List Int) (l22 : List types_Row) (i_1 : api_Instr) (row_2 : (List Int)) (t28 : op_Shape × Bool) (t37 : (List Int)) (b46 : Bool) : Option (op_Shape × (List types_Row)) :=
  if b46 = true then ((types_look_named_s1.f k_0_2 k_0_4 k_0_6 k_0_8 k_0_9 k_0_11 k_0_13 k_0_14 k_0_15 k_0_16 k_0_17 k_0_18 k_0_20 l22 i_1).bind fun t47 => types_look_shape_s1.j1 k_0_2 k_0_4 k_0_6 k_0_8 k_0_9 k_0_11 k_0_13 k_0_14 k_0_15 k_0_16 k_0_17 k_0_18 k_0_20 l22 i_1 row_2 t47.2 [t47.1] t28.1.Gives) else (if i_1.Op = 30 then ((elt k_0_6 i_1.A).bind fun x52 => (elt k_0_6 i_1.A).bind fun x60 => types_look_shape_s1.j1 k_0_2 k_0_4 k_0_6 k_0_8 k_0_9 k_0_11 k_0_13 k_0_14 k_0_15 k_0_16 k_0_17 k_0_18 k_0_20 l22 i_1 row_2 l22 x52.Args [x60.Result]) else (if i_1.Op = 31 then (types_look_shape_s1.j1 k_0_2 k_0_4 k_0_6 k_0_8 k_0_9 k_0_11 k_0_13 k_0_14 k_0_15 k_0_16 k_0_17 k_0_18 k_0_20 l22 i_1 row_2 l22 [k_0_13] t28.1.Gives) else (if i_1.Op = 8 then (if t37.length < 4611686018427387904 then (if ([0].length + [0].length) * 1 ≤ 140737488355328 then (types_look_shape_s1.j1 k_0_2 k_0_4 k_0_6 k_0_8 k_0_9 k_0_11 k_0_13 k_0_14 k_0_15 k_0_16 k_0_17 k_0_18 k_0_20 l22 i_1 row_2 l22 ([0] ++ [0]) t37.reverse) else none) else none) else (if i_1.Op = 7 then (if (t37.length : Int) > 0 then (if (0 : Int) ≤ (IntKind.i64.wrap ((t37.length : Int) - 1)) ∧ (IntKind.i64.wrap ((t37.length : Int) - 1)) ≤ (t37.length : Int) then ((slices_Repeat_uint8_uint8.f (t37.drop (IntKind.i64.wrap ((t37.length : Int) - 1) : Int).toNat) 2).bind fun t5296 => types_look_shape_s1.j2 k_0_2 k_0_4 k_0_6 k_0_8 k_0_9 k_0_11 k_0_13 k_0_14 k_0_15 k_0_16 k_0_17 k_0_18 k_0_20 l22 i_1 row_2 t28 t5296) else none) else (types_look_shape_s1.j2 k_0_2 k_0_4 k_0_6 k_0_8 k_0_9 k_0_11 k_0_13 k_0_14 k_0_15 k_0_16 k_0_17 k_0_18 k_0_20 l22 i_1 row_2 t28 t28.1.Gives)) else (types_look_shape_s1.j2 k_0_2 k_0_4 k_0_6 k_0_8 k_0_9 k_0_11 k_0_13 k_0_14 k_0_15 k_0_16 k_0_17 k_0_18 k_0_20 l22 i_1 row_2 t28 t28.1.Gives)))))
def types_look_shape_s1.j3 (k_0_2 : List api_Value) (k_0_4 : List api_Value) (k_0_6 : List api_Method) (k_0_8 : Int) (k_0_9 : List Int) (k_0_11 : List Int) (k_0_13 : Int) (k_0_14 : Bool) (k_0_15 : Int) (k_0_16 : Int) (k_0_17 : Int) (k_0_18 : List api_Instr) (k_0_20 : List Int) (l22 : List types_Row) (i_1 : api_Instr) (row_2 : (List Int)) (t28 : op_Shape × Bool) (t37 : (List Int)) (b42 : Bool) : Option (op_Shape × (List types_Row)) :=
  if b42 = true then ((types_look_named_s1.f k_0_2 k_0_4 k_0_6 k_0_8 k_0_9 k_0_11 k_0_13 k_0_14 k_0_15 k_0_16 k_0_17 k_0_18 k_0_20 l22 i_1).bind fun t43 => types_look_shape_s1.j1 k_0_2 k_0_4 k_0_6 k_0_8 k_0_9 k_0_11 k_0_13 k_0_14 k_0_15 k_0_16 k_0_17 k_0_18 k_0_20 l22 i_1 row_2 t43.2 t28.1.Takes [t43.1]) else (if i_1.Op = 3 then (types_look_shape_s1.j4 k_0_2 k_0_4 k_0_6 k_0_8 k_0_9 k_0_11 k_0_13 k_0_14 k_0_15 k_0_16 k_0_17 k_0_18 k_0_20 l22 i_1 row_2 t28 t37 (decide (i_1.Op = 3))) else (types_look_shape_s1.j4 k_0_2 k_0_4 k_0_6 k_0_8 k_0_9 k_0_11 k_0_13 k_0_14 k_0_15 k_0_16 k_0_17 k_0_18 k_0_20 l22 i_1 row_2 t28 t37 (decide (i_1.Op = 5))))
def types_look_shape_s1.f (k_0_2 : List api_Value) (k_0_4 : List api_Value) (k_0_6 : List api_Method) (k_0_8 : Int) (k_0_9 : List Int) (k_0_11 : List Int) (k_0_13 : Int) (k_0_14 : Bool) (k_0_15 : Int) (k_0_16 : Int) (k_0_17 : Int) (k_0_18 : List api_Instr) (k_0_20 : List Int) (l22 : List types_Row) (i_1 : api_Instr) (row_2 : (List Int)) : Option (op_Shape × (List types_Row)) :=
  (op_Of.f i_1.Op).bind fun t28 => if t28.2 = true then (some (t28.1, l22)) else (if (0 : Int) ≤ (if (IntKind.i64.wrap ((row_2.length : Int) - 2)) > 0 then IntKind.i64.wrap ((row_2.length : Int) - 2) else 0) ∧ (if (IntKind.i64.wrap ((row_2.length : Int) - 2)) > 0 then IntKind.i64.wrap ((row_2.length : Int) - 2) else 0) ≤ (row_2.length : Int) then ((slices_Clone_uint8_uint8.f (row_2.drop (if (IntKind.i64.wrap ((row_2.length : Int) - 2)) > 0 then IntKind.i64.wrap ((row_2.length : Int) - 2) else 0 : Int).toNat)).bind fun t37 => if i_1.Op = 1 then (types_look_shape_s1.j3 k_0_2 k_0_4 k_0_6 k_0_8 k_0_9 k_0_11 k_0_13 k_0_14 k_0_15 k_0_16 k_0_17 k_0_18 k_0_20 l22 i_1 row_2 t28 t37 (decide (i_1.Op = 1))) else (if i_1.Op = 2 then (types_look_shape_s1.j3 k_0_2 k_0_4 k_0_6 k_0_8 k_0_9 k_0_11 k_0_13 k_0_14 k_0_15 k_0_16 k_0_17 k_0_18 k_0_20 l22 i_1 row_2 t28 t37 (decide (i_1.Op = 2))) else (types_look_shape_s1.j3 k_0_2 k_0_4 k_0_6 k_0_8 k_0_9 k_0_11 k_0_13 k_0_14 k_0_15 k_0_16 k_0_17 k_0_18 k_0_20 l22 i_1 row_2 t28 t37 (decide (i_1.Op = 4))))) else none)
theorem types_look_shape_s1.ok (k_0_2 : List api_Value) (k_0_4 : List api_Value) (k_0_6 : List api_Method) (k_0_8 : Int) (k_0_9 : List Int) (k_0_11 : List Int) (k_0_13 : Int) (k_0_14 : Bool) (k_0_15 k_0_16 k_0_17 : Int) (k_0_18 : List api_Instr) (k_0_20 : List Int) (l22 : List types_Row) (i_1 : api_Instr) (row_2 : (List Int)) (v_k_0_2 v_k_0_4 : Value) (v_k_0_6 v_k_0_9 : Value) (v_k_0_11 v_k_0_18 : Value) (v_k_0_20 v_row_2 : Value) (r : op_Shape × (List types_Row)) (H : types_look_shape_s1.f k_0_2 k_0_4 k_0_6 k_0_8 k_0_9 k_0_11 k_0_13 k_0_14 k_0_15 k_0_16 k_0_17 k_0_18 k_0_20 l22 i_1 row_2 = some r) (w : World) (hV : Hp) (sV : Sub hV (hp w)) (h0 : slR k_api_Value hV v_k_0_2 k_0_2) (h1 : slR k_api_Value hV v_k_0_4 k_0_4) (h2 : slR k_api_Method hV v_k_0_6 k_0_6) (h3 : slR (kInt .u8) hV v_k_0_9 k_0_9) (h4 : slR (kInt .u8) hV v_k_0_11 k_0_11) (h5 : slR k_api_Instr hV v_k_0_18 k_0_18) (h6 : slR (kInt .u8) hV v_k_0_20 k_0_20) (h7 : slR (kInt .u8) hV v_row_2 row_2) (b1 : Nat) (hA : Hp) (sA : Sub hA (hp w)) (dA : Dj hV hA) (hI : (arrK k_types_Row b1 [v_k_0_2, v_k_0_4, v_k_0_6, .int .i64 k_0_8, v_k_0_9, v_k_0_11, .int .u8 k_0_13, .bool k_0_14, .int .i64 k_0_15, .int .i64 k_0_16, .int .i64 k_0_17, v_k_0_18, v_k_0_20] 200 l22 [] 97).p hV hA) :
    Trip Tryz.prog 112 [.pointer (some ⟨b1, 0, none⟩), .agg #[.int .u8 i_1.Op, .int .i64 i_1.A, .int .i64 i_1.B], v_row_2].toArray hA hV w (fun v => HO.ex fun u0 : Value => HO.ex fun u1 : Value => HO.pand (v = .agg #[u0, u1]) (HO.seps [HO.ofP (slP (kInt .u8) u0 r.1.Takes), slO (kInt .u8) 5 u1 r.1.Gives, arrK k_types_Row b1 [v_k_0_2, v_k_0_4, v_k_0_6, .int .i64 k_0_8, v_k_0_9, v_k_0_11, .int .u8 k_0_13, .bool k_0_14, .int .i64 k_0_15, .int .i64 k_0_16, .int .i64 k_0_17, v_k_0_18, v_k_0_20] 200 r.2 [] 97])) := by
 have see : Sees w hA hV := ⟨sV, dA⟩
 refine Trip.of (P := Tryz.prog) (n := ⟨106, []⟩) Tryz.func112 rfl ⟨rfl, rfl⟩ rfl (St.beginA (os := [arrK k_types_Row b1 [v_k_0_2, v_k_0_4, v_k_0_6, .int .i64 k_0_8, v_k_0_9, v_k_0_11, .int .u8 k_0_13, .bool k_0_14, .int .i64 k_0_15, .int .i64 k_0_16, .int .i64 k_0_17, v_k_0_18, v_k_0_20] 200 l22 [] 97]) sA (aS h0 (aS h1 (aS h2 (aS h3 (aS h4 (aS h5 (aS h6 (aS h7 (All.nil _))))))))) ⟨hA, em, Dj.em_right _, Sub.refl _, Sub.em _, hI, trivial⟩) ?_
 have ho := H
 refine go ?_
 refine SP.box rfl rfl rfl rfl fun b24 => ?_
 refine SP.alloc (cs := [(.slice none 0 0), (.slice none 0 0)]) inf186 rfl rfl (fun b26 => go ?_)
 obtain ⟨t28, hc, ho⟩ := bind_some ho
 refine SP.callK see (caps := []) _ fn134 rfl rfl rfl rfl (fun w2 hP hs sub ap => op_Of.ok _  _ hc w2 hP sub ) (SP.k2 fun v29 v30 => ?_)
 clear hc
 refine go ?_
 refine SP.alloc (cs := [(.slice none 0 0), (.slice none 0 0)]) inf186 rfl rfl (fun b33 => ?_)
 refine SP.have (fun w2 hw => slO.shape (St.own 1 rfl see.sub see.dj hw)) (fun hs_v29 => ?_)
 refine SP.have (fun w2 hw => slO.shape (St.own 2 rfl see.sub see.dj hw)) (fun hs_v30 => ?_)
 refine SP.store (v := .agg #[v29, v30]) (vs := [v29, v30]) 0 (by rfl) sz186 (by rfl) (by rfl) (by rfl) (by rfl) (one_cons hs_v29 (one_cons hs_v30 (rfl))) (by rfl) (go ?_)
 refine CP.seq (go ?_)
 refine CP.cb ho (fun ho => ?_) fun ho => ?_
 ·refine go ?_
  refine SP.val (Val.loadA 0 rfl Tryz.underlying186 rfl sz186 rfl rfl rfl) rfl rfl rfl ?_
  refine SP.have (fun w2 hw => slO.shape (St.own 1 rfl see.sub see.dj hw)) (fun hs_v29 => ?_)
  refine SP.have (fun w2 hw => slO.shape (St.own 2 rfl see.sub see.dj hw)) (fun hs_v30 => ?_)
  refine SP.store (v := .agg #[v29, v30]) (vs := [v29, v30]) 3 (by rfl) sz186 (by rfl) (by rfl) (by rfl) (by rfl) (one_cons hs_v29 (one_cons hs_v30 (rfl))) (by rfl) (go ?_)
  obtain rfl := Option.some.inj ho
  exact QE.rt (fun _ h => St.selO [1, 4] rfl rfl (St.freezeS h 1 rfl see)) (rs := [.cell 6 186]) (vs := [.agg #[v29, v30]]) (hv := ⟨RVs.cellA 3 rfl rfl Tryz.underlying186 rfl sz186, trivial⟩) (hk := fun a b p s => ⟨_, _, rfl, ⟨em, _, Dj.em_left _, Sub.em _, Sub.refl _, p.get 0 rfl, s⟩⟩)
 refine go ?_
 refine SP.val (Val.max2 rfl rfl) rfl rfl rfl ?_
 obtain ⟨hz, ho⟩ := must_some ho
 refine SP.sliceFromP see 7 rfl Tryz.underlying38 sz5 rfl rfl hz rfl rfl (fun v35 => ?_)
 clear hz
 obtain ⟨t37, hc, ho⟩ := bind_some ho
 refine SP.callK see (caps := []) _ fn49 rfl rfl rfl rfl (fun w2 hP hs sub ap => slices_Clone_uint8_uint8.ok _ _ _ hc w2 hP sub (ap.get 0 rfl)) (SP.k1 fun v38 => ?_)
 clear hc
 refine go ?_
 refine SP.lit (k := (kInt .u8)) (xs := [0]) (vs := [.int .u8 0]) (cells := [.int .u8 0]) Tryz.underlying38 inf5 rfl rfl rfl rfl rfl rfl rfl rfl (fun _ ap => ⟨[.int .u8 0], _, rfl, rfl, rfl⟩) rfl rfl rfl (fun v40 => go ?_)
 refine CP.join (fun a w2 => ∃ l5302 : List types_Row, ∃ l5304 : List Int, ∃ l5307 : List Int, ∃ v5305 : Value, ∃ v5308 : Value, types_look_shape_s1.j1 k_0_2 k_0_4 k_0_6 k_0_8 k_0_9 k_0_11 k_0_13 k_0_14 k_0_15 k_0_16 k_0_17 k_0_18 k_0_20 l22 i_1 row_2 l5302 l5304 l5307 = some r ∧ Env ⟨106, []⟩ [(6, .pointer (some ⟨b26, 0, none⟩)), (7, .pointer (some ⟨b33, 0, none⟩))] a ∧ St w hA hV [slP (kInt .u8) v5305 l5304, slP k_api_Value v_k_0_2 k_0_2, slP k_api_Value v_k_0_4 k_0_4, slP k_api_Method v_k_0_6 k_0_6, slP (kInt .u8) v_k_0_9 k_0_9, slP (kInt .u8) v_k_0_11 k_0_11, slP k_api_Instr v_k_0_18 k_0_18, slP (kInt .u8) v_k_0_20 k_0_20] [slO (kInt .u8) 5 v5308 l5307, arrK k_types_Row b1 [v_k_0_2, v_k_0_4, v_k_0_6, .int .i64 k_0_8, v_k_0_9, v_k_0_11, .int .u8 k_0_13, .bool k_0_14, .int .i64 k_0_15, .int .i64 k_0_16, .int .i64 k_0_17, v_k_0_18, v_k_0_20] 200 l5302 [] 97, boxO b33 [v5305, v5308] 186, boxO b26 [(.slice none 0 0), (.slice none 0 0)] 186] w2) ?_ ?_
 ·rintro a w2 ⟨l5302, l5304, l5307, v5305, v5308, ho, ha, hw⟩
  refine CP.app ha hw ?_
  clear ha hw a w2
  refine go ?_
  refine SP.val (Val.loadA 2 rfl Tryz.underlying186 rfl sz186 rfl rfl rfl) rfl rfl rfl ?_
  refine SP.have (fun w2 hw => slR.shape (St.pers 0 rfl see.sub see.dj hw)) (fun hs_v5305 => ?_)
  refine SP.have (fun w2 hw => slO.shape (St.own 0 rfl see.sub see.dj hw)) (fun hs_v5308 => ?_)
  refine SP.store (v := .agg #[v5305, v5308]) (vs := [v5305, v5308]) 3 (by rfl) sz186 (by rfl) (by rfl) (by rfl) (by rfl) (one_cons hs_v5305 (one_cons hs_v5308 (rfl))) (by rfl) (go ?_)
  obtain rfl := Option.some.inj ho
  exact QE.rt (fun _ h => St.selO [0, 1] rfl rfl h) (rs := [.cell 6 186]) (vs := [.agg #[v5305, v5308]]) (hv := ⟨RVs.cellA 3 rfl rfl Tryz.underlying186 rfl sz186, trivial⟩) (hk := fun a b p s => ⟨_, _, rfl, ⟨em, _, Dj.em_left _, Sub.em _, Sub.refl _, p.get 0 rfl, s⟩⟩)
 refine go ?_
 refine CP.join (fun a w2 => ∃ l5300 : List Int, ∃ v5301 : Value, types_look_shape_s1.j2 k_0_2 k_0_4 k_0_6 k_0_8 k_0_9 k_0_11 k_0_13 k_0_14 k_0_15 k_0_16 k_0_17 k_0_18 k_0_20 l22 i_1 row_2 t28 l5300 = some r ∧ Env ⟨106, []⟩ [(6, .pointer (some ⟨b26, 0, none⟩)), (7, .pointer (some ⟨b33, 0, none⟩)), (10, v40)] a ∧ St w hA hV [slP k_api_Value v_k_0_2 k_0_2, slP k_api_Value v_k_0_4 k_0_4, slP k_api_Method v_k_0_6 k_0_6, slP (kInt .u8) v_k_0_9 k_0_9, slP (kInt .u8) v_k_0_11 k_0_11, slP k_api_Instr v_k_0_18 k_0_18, slP (kInt .u8) v_k_0_20 k_0_20] [slO (kInt .u8) 5 v5301 l5300, slO (kInt .u8) 5 v40 [0], boxO b33 [v29, v5301] 186, slO (kInt .u8) 5 v29 t28.1.Takes, boxO b26 [(.slice none 0 0), (.slice none 0 0)] 186, arrK k_types_Row b1 [v_k_0_2, v_k_0_4, v_k_0_6, .int .i64 k_0_8, v_k_0_9, v_k_0_11, .int .u8 k_0_13, .bool k_0_14, .int .i64 k_0_15, .int .i64 k_0_16, .int .i64 k_0_17, v_k_0_18, v_k_0_20] 200 l22 [] 97] w2) ?_ ?_
 ·rintro a w2 ⟨l5300, v5301, ho, ha, hw⟩
  refine CP.app ha hw ?_
  clear ha hw a w2
  refine go ?_
  refine SP.have (fun w2 hw => slO.shape (St.own 1 rfl see.sub see.dj hw)) (fun hs_v40 => ?_)
  refine SP.store (v := v40) (vs := [v40]) 2 (by rfl) sz38 (by rfl) (by rfl) (by rfl) (one_cells hs_v40) (one_cons hs_v40 (rfl)) (by rfl) (go ?_)
  exact QE.meet fun a w2 ha hw => ⟨l22, [0], l5300, v40, v5301, ho, ha.sub sb, (St.selO [0, 4, 1, 3] rfl rfl (St.freezeS hw 1 rfl see))⟩
 refine go ?_
 refine CP.seq (go ?_)
 refine CP.seq (go ?_)
 refine CP.seq (go ?_)
 refine CP.seq (go ?_)
 refine CP.seq (go ?_)
 refine CP.seq (go ?_)
 refine CP.seq ?_
 refine CP.seq ?_
 refine CP.join (fun a w2 => ∃ b42 : Bool, types_look_shape_s1.j3 k_0_2 k_0_4 k_0_6 k_0_8 k_0_9 k_0_11 k_0_13 k_0_14 k_0_15 k_0_16 k_0_17 k_0_18 k_0_20 l22 i_1 row_2 t28 t37 b42 = some r ∧ Env ⟨106, []⟩ [(0, .pointer (some ⟨b1, 0, none⟩)), (4, .pointer (some ⟨b24, 0, none⟩)), (6, .pointer (some ⟨b26, 0, none⟩)), (7, .pointer (some ⟨b33, 0, none⟩)), (9, v38), (10, v40), (28, .int .u8 i_1.Op), (29, .bool b42)] a ∧ St w hA hV [slP k_api_Value v_k_0_2 k_0_2, slP k_api_Value v_k_0_4 k_0_4, slP k_api_Method v_k_0_6 k_0_6, slP (kInt .u8) v_k_0_9 k_0_9, slP (kInt .u8) v_k_0_11 k_0_11, slP k_api_Instr v_k_0_18 k_0_18, slP (kInt .u8) v_k_0_20 k_0_20] [slO (kInt .u8) 5 v40 [0], slO (kInt .u8) 5 v38 t37, boxO b33 [v29, v30] 186, slO (kInt .u8) 5 v29 t28.1.Takes, slO (kInt .u8) 5 v30 t28.1.Gives, boxO b26 [(.slice none 0 0), (.slice none 0 0)] 186, boxO b24 [.int .u8 i_1.Op, .int .i64 i_1.A, .int .i64 i_1.B] 71, arrK k_types_Row b1 [v_k_0_2, v_k_0_4, v_k_0_6, .int .i64 k_0_8, v_k_0_9, v_k_0_11, .int .u8 k_0_13, .bool k_0_14, .int .i64 k_0_15, .int .i64 k_0_16, .int .i64 k_0_17, v_k_0_18, v_k_0_20] 200 l22 [] 97] w2) ?_ ?_
 ·rintro a w2 ⟨b42, ho, ha, hw⟩
  refine CP.app ha hw ?_
  clear ha hw a w2
  refine CP.cb ho (fun ho => ?_) fun ho => ?_
  ·refine go ?_
   refine SP.val (Val.loadA 6 rfl Tryz.underlying71 rfl sz71 rfl rfl rfl) rfl rfl rfl ?_
   refine SP.imp (fun w2 hw => St.selO [7, 0, 1, 2, 3, 4, 5, 6] rfl rfl hw) ?_
   obtain ⟨t43, hc, ho⟩ := bind_some ho
   refine SP.callA see (caps := []) _ fn135 rfl rfl rfl rfl (fun w2 hP h1 sub s1 d1 ap hI => types_look_named_s1.ok _ _ _ _ _ _ _ _ _ _ _ _ _ _ _ _ _ _ _ _ _ _ _ hc w2 hP sub (ap.get 0 rfl) (ap.get 1 rfl) (ap.get 2 rfl) (ap.get 3 rfl) (ap.get 4 rfl) (ap.get 5 rfl) (ap.get 6 rfl) _ h1 s1 d1 hI) (SP.k0 ?_)
   clear hc
   refine SP.lit (k := (kInt .u8)) (xs := [t43.1]) (vs := [.int .u8 t43.1]) (cells := [.int .u8 t43.1]) Tryz.underlying38 inf5 rfl rfl rfl rfl rfl rfl rfl rfl (fun _ ap => ⟨[.int .u8 t43.1], _, rfl, rfl, rfl⟩) rfl rfl rfl (fun v44 => go ?_)
   refine SP.have (fun w2 hw => slO.shape (St.own 0 rfl see.sub see.dj hw)) (fun hs_v44 => ?_)
   refine SP.store (v := v44) (vs := [v44]) 4 (by rfl) sz38 (by rfl) (by rfl) (by rfl) (one_cells hs_v44) (one_cons hs_v44 (rfl)) (by rfl) (go ?_)
   exact QE.meet fun a w2 ha hw => ⟨t43.2, t28.1.Takes, [t43.1], v29, v44, ho, ha.sub sb, (St.selO [0, 1, 4, 6] rfl rfl (St.freezeS hw 5 rfl see))⟩
  refine go ?_
  refine CP.seq ?_
  refine CP.join (fun a w2 => ∃ b46 : Bool, types_look_shape_s1.j4 k_0_2 k_0_4 k_0_6 k_0_8 k_0_9 k_0_11 k_0_13 k_0_14 k_0_15 k_0_16 k_0_17 k_0_18 k_0_20 l22 i_1 row_2 t28 t37 b46 = some r ∧ Env ⟨106, []⟩ [(0, .pointer (some ⟨b1, 0, none⟩)), (4, .pointer (some ⟨b24, 0, none⟩)), (6, .pointer (some ⟨b26, 0, none⟩)), (7, .pointer (some ⟨b33, 0, none⟩)), (9, v38), (10, v40), (28, .int .u8 i_1.Op), (33, .bool b46)] a ∧ St w hA hV [slP k_api_Value v_k_0_2 k_0_2, slP k_api_Value v_k_0_4 k_0_4, slP k_api_Method v_k_0_6 k_0_6, slP (kInt .u8) v_k_0_9 k_0_9, slP (kInt .u8) v_k_0_11 k_0_11, slP k_api_Instr v_k_0_18 k_0_18, slP (kInt .u8) v_k_0_20 k_0_20] [slO (kInt .u8) 5 v40 [0], slO (kInt .u8) 5 v38 t37, boxO b33 [v29, v30] 186, slO (kInt .u8) 5 v29 t28.1.Takes, slO (kInt .u8) 5 v30 t28.1.Gives, boxO b26 [(.slice none 0 0), (.slice none 0 0)] 186, boxO b24 [.int .u8 i_1.Op, .int .i64 i_1.A, .int .i64 i_1.B] 71, arrK k_types_Row b1 [v_k_0_2, v_k_0_4, v_k_0_6, .int .i64 k_0_8, v_k_0_9, v_k_0_11, .int .u8 k_0_13, .bool k_0_14, .int .i64 k_0_15, .int .i64 k_0_16, .int .i64 k_0_17, v_k_0_18, v_k_0_20] 200 l22 [] 97] w2) ?_ ?_
  ·rintro a w2 ⟨b46, ho, ha, hw⟩
   refine CP.app ha hw ?_
   clear ha hw a w2
   refine CP.cb ho (fun ho => ?_) fun ho => ?_
   ·refine go ?_
    refine SP.val (Val.loadA 6 rfl Tryz.underlying71 rfl sz71 rfl rfl rfl) rfl rfl rfl ?_
    refine SP.imp (fun w2 hw => St.selO [7, 0, 1, 2, 3, 4, 5, 6] rfl rfl hw) ?_
    obtain ⟨t47, hc, ho⟩ := bind_some ho
    refine SP.callA see (caps := []) _ fn135 rfl rfl rfl rfl (fun w2 hP h1 sub s1 d1 ap hI => types_look_named_s1.ok _ _ _ _ _ _ _ _ _ _ _ _ _ _ _ _ _ _ _ _ _ _ _ hc w2 hP sub (ap.get 0 rfl) (ap.get 1 rfl) (ap.get 2 rfl) (ap.get 3 rfl) (ap.get 4 rfl) (ap.get 5 rfl) (ap.get 6 rfl) _ h1 s1 d1 hI) (SP.k0 ?_)
    clear hc
    refine SP.lit (k := (kInt .u8)) (xs := [t47.1]) (vs := [.int .u8 t47.1]) (cells := [.int .u8 t47.1]) Tryz.underlying38 inf5 rfl rfl rfl rfl rfl rfl rfl rfl (fun _ ap => ⟨[.int .u8 t47.1], _, rfl, rfl, rfl⟩) rfl rfl rfl (fun v48 => go ?_)
    refine SP.have (fun w2 hw => slO.shape (St.own 0 rfl see.sub see.dj hw)) (fun hs_v48 => ?_)
    refine SP.store (v := v48) (vs := [v48]) 4 (by rfl) sz38 (by rfl) (by rfl) (by rfl) (one_cells hs_v48) (one_cons hs_v48 (rfl)) (by rfl) (go ?_)
    exact QE.meet fun a w2 ha hw => ⟨t47.2, [t47.1], t28.1.Gives, v48, v30, ho, ha.sub sb, (St.selO [5, 0, 3, 6] rfl rfl (St.freezeS hw 0 rfl see))⟩
   refine go ?_
   refine CP.seq (go ?_)
   refine CP.ci ho (fun ho => ?_) fun ho => ?_
   ·refine go ?_
    refine CP.seq ?_
    refine CP.drawA (by kernel_rfl) (fun w2 k h => h.drawn k) ?_
    obtain ⟨x52, hx, ho⟩ := elt_bind ho
    refine DA.ghost (fun w2 h => h.elem see 2 rfl hx.1 hx.2) (fun p50 h_p50 => ?_)
    clear hx
    refine DA.ghost (fun w2 h => h.fieldE see 0 rfl k_api_Method.part_Args) (fun p53 h_p53 => ?_)
    refine DA.ghost (fun w2 h => h.openE see 0 rfl (fun (v55 : Value) => [v55]) (fun (v55 : Value) => [slP (kInt .u8) v55 x52.Args]) (fun h cs ⟨v55, e, p0⟩ => ⟨v55, e, All.cons p0 (All.nil _)⟩)) (fun z_ _ => ?_)
    rename Value => v55
    obtain ⟨x60, hx, ho⟩ := elt_bind ho
    refine DA.ghost (fun w2 h => h.elem see 6 rfl hx.1 hx.2) (fun p58 h_p58 => ?_)
    clear hx
    refine DA.ghost (fun w2 h => h.fieldE see 0 rfl k_api_Method.part_Result) (fun p61 h_p61 => ?_)
    refine DA.ghost (fun w2 h => h.openE see 0 rfl (fun _ : Unit => [.int .u8 x60.Result]) (fun _ => []) (fun h cs e => ⟨(), e, All.nil _⟩)) (fun _ _ => ?_)
    refine (DA.phase (fun i => Nat.ble 0 i && Nat.blt i 23) (fun w2 => St w hA hV [atP p61 [.int .u8 x60.Result], elP (kInt .u8) p61 x60.Result, elP k_api_Method p58 x60, atP p53 [v55], slP (kInt .u8) v55 x52.Args, elP (kSl (kInt .u8)) p53 x52.Args, elP k_api_Method p50 x52, slP k_api_Value v_k_0_2 k_0_2, slP k_api_Value v_k_0_4 k_0_4, slP k_api_Method v_k_0_6 k_0_6, slP (kInt .u8) v_k_0_9 k_0_9, slP (kInt .u8) v_k_0_11 k_0_11, slP k_api_Instr v_k_0_18 k_0_18, slP (kInt .u8) v_k_0_20 k_0_20] [slO (kInt .u8) 5 v40 [0], slO (kInt .u8) 5 v38 t37, slO (kInt .u8) 5 v29 t28.1.Takes, slO (kInt .u8) 5 v30 t28.1.Gives, boxO b26 [(.slice none 0 0), (.slice none 0 0)] 186, boxO b24 [.int .u8 i_1.Op, .int .i64 i_1.A, .int .i64 i_1.B] 71, arrK k_types_Row b1 [v_k_0_2, v_k_0_4, v_k_0_6, .int .i64 k_0_8, v_k_0_9, v_k_0_11, .int .u8 k_0_13, .bool k_0_14, .int .i64 k_0_15, .int .i64 k_0_16, .int .i64 k_0_17, v_k_0_18, v_k_0_20] 200 l22 [] 97] w2) ?_)
    refine DT.ts 0 rfl (Val.move rfl) (fun w2 hw => (St.selO [0, 1, 3, 4, 5, 6, 7] rfl rfl hw)) ?_
    refine DT.ts 1 rfl (Val.nilCheck rfl) (fun w2 hw => (St.selO [0, 1, 3, 4, 5, 6, 7] rfl rfl hw)) ?_
    refine DT.ts 2 rfl (Val.fieldAddr Tryz.underlying97 rfl sz25 rfl) (fun w2 hw => (St.selO [0, 1, 3, 4, 5, 6, 7] rfl rfl hw)) ?_
    refine DT.ts 3 rfl (Val.fieldAddr Tryz.underlying25 rfl sz23 rfl) (fun w2 hw => (St.selO [0, 1, 3, 4, 5, 6, 7] rfl rfl hw)) ?_
    refine DT.ts 4 rfl (Val.loadKPre1 see 6 rfl Tryz.underlying23 rfl rfl rfl) (fun w2 hw => (St.selO [0, 1, 3, 4, 5, 6, 7] rfl rfl hw)) ?_
    refine DT.ts 5 rfl (Val.fieldAddr Tryz.underlying71 rfl sz3 rfl) (fun w2 hw => (St.selO [0, 1, 3, 4, 5, 6, 7] rfl rfl hw)) ?_
    refine DT.ts 6 rfl (Val.load1 5 rfl Tryz.underlying3 rfl rfl rfl) (fun w2 hw => (St.selO [0, 1, 3, 4, 5, 6, 7] rfl rfl hw)) ?_
    refine DT.ts 7 rfl (Val.indexE h_p50 Tryz.underlying23 sz41 rfl rfl) (fun w2 hw => (St.selO [0, 1, 3, 4, 5, 6, 7] rfl rfl hw)) ?_
    refine DT.ts 8 rfl (Val.fieldE h_p53 Tryz.underlying41 rfl rfl sz38 rfl) (fun w2 hw => (St.selO [0, 1, 3, 4, 5, 6, 7] rfl rfl hw)) ?_
    refine DT.ts 9 rfl (Val.loadAt1 see 3 rfl Tryz.underlying38 rfl rfl) (fun w2 hw => (St.selO [0, 1, 3, 4, 5, 6, 7] rfl rfl hw)) ?_
    refine DT.ts 10 rfl (Val.move rfl) (fun w2 hw => (St.selO [0, 1, 3, 4, 5, 6, 7] rfl rfl hw)) ?_
    refine DT.ts 11 rfl (Val.nilCheck rfl) (fun w2 hw => (St.selO [0, 1, 3, 4, 5, 6, 7] rfl rfl hw)) ?_
    refine DT.ts 12 rfl (Val.fieldAddr Tryz.underlying97 rfl sz25 rfl) (fun w2 hw => (St.selO [0, 1, 3, 4, 5, 6, 7] rfl rfl hw)) ?_
    refine DT.ts 13 rfl (Val.fieldAddr Tryz.underlying25 rfl sz23 rfl) (fun w2 hw => (St.selO [0, 1, 3, 4, 5, 6, 7] rfl rfl hw)) ?_
    refine DT.ts 14 rfl (Val.loadKPre1 see 6 rfl Tryz.underlying23 rfl rfl rfl) (fun w2 hw => (St.selO [0, 1, 3, 4, 5, 6, 7] rfl rfl hw)) ?_
    refine DT.ts 15 rfl (Val.fieldAddr Tryz.underlying71 rfl sz3 rfl) (fun w2 hw => (St.selO [0, 1, 3, 4, 5, 6, 7] rfl rfl hw)) ?_
    refine DT.ts 16 rfl (Val.load1 5 rfl Tryz.underlying3 rfl rfl rfl) (fun w2 hw => (St.selO [0, 1, 3, 4, 5, 6, 7] rfl rfl hw)) ?_
    refine DT.ts 17 rfl (Val.indexE h_p58 Tryz.underlying23 sz41 rfl rfl) (fun w2 hw => (St.selO [0, 1, 3, 4, 5, 6, 7] rfl rfl hw)) ?_
    refine DT.ts 18 rfl (Val.fieldE h_p61 Tryz.underlying41 rfl rfl sz5 rfl) (fun w2 hw => (St.selO [0, 1, 3, 4, 5, 6, 7] rfl rfl hw)) ?_
    refine DT.ts 19 rfl (Val.loadAt1 see 0 rfl Tryz.underlying5 rfl rfl) (fun w2 hw => (St.selO [0, 1, 3, 4, 5, 6, 7] rfl rfl hw)) ?_
    refine DT.ts 21 rfl (Val.fieldAddr Tryz.underlying186 rfl sz38 rfl) (fun w2 hw => (St.selO [0, 1, 3, 4, 5, 6, 7] rfl rfl hw)) ?_
    refine DT.list (l2 := #[true, true, true, true, true, true, true, true, true, true, true, true, true, true, true, true, true, true, true, true, false, true, false, false, false]) (by kernel_rfl) ?_
    refine DT.cut (ι := Value) (fun z => [(6, .pointer (some ⟨b26, 0, none⟩)), (7, .pointer (some ⟨b33, 0, none⟩)), (74, z)]) (fun z w2 => St w hA hV [atP p61 [.int .u8 x60.Result], elP (kInt .u8) p61 x60.Result, elP k_api_Method p58 x60, atP p53 [v55], slP (kInt .u8) v55 x52.Args, elP (kSl (kInt .u8)) p53 x52.Args, elP k_api_Method p50 x52, slP k_api_Value v_k_0_2 k_0_2, slP k_api_Value v_k_0_4 k_0_4, slP k_api_Method v_k_0_6 k_0_6, slP (kInt .u8) v_k_0_9 k_0_9, slP (kInt .u8) v_k_0_11 k_0_11, slP k_api_Instr v_k_0_18 k_0_18, slP (kInt .u8) v_k_0_20 k_0_20] [slO (kInt .u8) 5 z [x60.Result], slO (kInt .u8) 5 v40 [0], slO (kInt .u8) 5 v38 t37, boxO b33 [v55, v30] 186, slO (kInt .u8) 5 v29 t28.1.Takes, slO (kInt .u8) 5 v30 t28.1.Gives, boxO b26 [(.slice none 0 0), (.slice none 0 0)] 186, boxO b24 [.int .u8 i_1.Op, .int .i64 i_1.A, .int .i64 i_1.B] 71, arrK k_types_Row b1 [v_k_0_2, v_k_0_4, v_k_0_6, .int .i64 k_0_8, v_k_0_9, v_k_0_11, .int .u8 k_0_13, .bool k_0_14, .int .i64 k_0_15, .int .i64 k_0_16, .int .i64 k_0_17, v_k_0_18, v_k_0_20] 200 l22 [] 97] w2) 2 #[true, true, true, true, true, true, true, true, true, true, true, true, true, true, true, true, true, true, true, true, true, true, true, false, false] (fun z => ?_) (fun J5282 => ?_)
    ·rename Value => v4270
     refine DT.next (by kernel_rfl) ?_
     refine DA.one 23 rfl (by kernel_rfl) (go ?_)
     refine QE.atA ?_
     refine DA.one 24 rfl (by kernel_rfl) ?_
     refine SP.have (fun w2 hw => slO.shape (St.own 0 rfl see.sub see.dj hw)) (fun hs_v4270 => ?_)
     refine SP.store (v := v4270) (vs := [v4270]) 3 (by rfl) sz38 (by rfl) (by rfl) (by rfl) (one_cells hs_v4270) (one_cons hs_v4270 (rfl)) (by rfl) (go ?_)
     refine QE.atA ?_
     refine DA.done (by kernel_rfl) (go ?_)
     exact QE.meet fun a w2 ha hw => ⟨l22, x52.Args, [x60.Result], v55, v4270, ho, ha.sub sb, (St.selP [4, 7, 8, 9, 10, 11, 12, 13] rfl (St.selO [0, 8, 3, 6] rfl rfl hw))⟩
    refine DT.cut (ι := Value) (fun z => [(6, .pointer (some ⟨b26, 0, none⟩)), (7, .pointer (some ⟨b33, 0, none⟩)), (63, v55), (74, z), (75, .pointer (some ⟨b33, 0, none⟩))]) (fun z w2 => St w hA hV [atP p61 [.int .u8 x60.Result], elP (kInt .u8) p61 x60.Result, elP k_api_Method p58 x60, atP p53 [v55], slP (kInt .u8) v55 x52.Args, elP (kSl (kInt .u8)) p53 x52.Args, elP k_api_Method p50 x52, slP k_api_Value v_k_0_2 k_0_2, slP k_api_Value v_k_0_4 k_0_4, slP k_api_Method v_k_0_6 k_0_6, slP (kInt .u8) v_k_0_9 k_0_9, slP (kInt .u8) v_k_0_11 k_0_11, slP k_api_Instr v_k_0_18 k_0_18, slP (kInt .u8) v_k_0_20 k_0_20] [slO (kInt .u8) 5 z [x60.Result], slO (kInt .u8) 5 v40 [0], slO (kInt .u8) 5 v38 t37, boxO b33 [v29, v30] 186, slO (kInt .u8) 5 v29 t28.1.Takes, slO (kInt .u8) 5 v30 t28.1.Gives, boxO b26 [(.slice none 0 0), (.slice none 0 0)] 186, boxO b24 [.int .u8 i_1.Op, .int .i64 i_1.A, .int .i64 i_1.B] 71, arrK k_types_Row b1 [v_k_0_2, v_k_0_4, v_k_0_6, .int .i64 k_0_8, v_k_0_9, v_k_0_11, .int .u8 k_0_13, .bool k_0_14, .int .i64 k_0_15, .int .i64 k_0_16, .int .i64 k_0_17, v_k_0_18, v_k_0_20] 200 l22 [] 97] w2) 3 #[true, true, true, true, true, true, true, true, true, true, true, true, true, true, true, true, true, true, true, true, true, true, false, false, false] (fun z => ?_) (fun J5283 => ?_)
    ·rename Value => v4270
     refine DT.one 22 rfl (by kernel_rfl) rfl ?_
     refine SP.have (fun w2 hw => slR.shape (St.pers 4 rfl see.sub see.dj hw)) (fun hs_v55 => ?_)
     refine SP.store (v := v55) (vs := [v55]) 3 (by rfl) sz38 (by rfl) (by rfl) (by rfl) (one_cells hs_v55) (one_cons hs_v55 (rfl)) (by rfl) (go ?_)
     refine QE.atT (fun w2 hw => (St.selO [1, 2, 4, 5, 6, 7, 8] rfl rfl hw)) ?_
     refine DT.list (l2 := #[true, true, true, true, true, true, true, true, true, true, true, true, true, true, true, true, true, true, true, true, true, true, true, false, false]) (by kernel_rfl) ?_
     exact DT.weak (by exact ⟨rfl, rfl, rfl, trivial⟩) (by exact fun w2 hw => hw) (J5282 v4270)
    refine DT.cut (ι := Unit) (fun z => [(6, .pointer (some ⟨b26, 0, none⟩)), (7, .pointer (some ⟨b33, 0, none⟩)), (73, .int .u8 x60.Result)]) (fun z w2 => St w hA hV [atP p61 [.int .u8 x60.Result], elP (kInt .u8) p61 x60.Result, elP k_api_Method p58 x60, atP p53 [v55], slP (kInt .u8) v55 x52.Args, elP (kSl (kInt .u8)) p53 x52.Args, elP k_api_Method p50 x52, slP k_api_Value v_k_0_2 k_0_2, slP k_api_Value v_k_0_4 k_0_4, slP k_api_Method v_k_0_6 k_0_6, slP (kInt .u8) v_k_0_9 k_0_9, slP (kInt .u8) v_k_0_11 k_0_11, slP k_api_Instr v_k_0_18 k_0_18, slP (kInt .u8) v_k_0_20 k_0_20] [slO (kInt .u8) 5 v40 [0], slO (kInt .u8) 5 v38 t37, boxO b33 [v55, v30] 186, slO (kInt .u8) 5 v29 t28.1.Takes, slO (kInt .u8) 5 v30 t28.1.Gives, boxO b26 [(.slice none 0 0), (.slice none 0 0)] 186, boxO b24 [.int .u8 i_1.Op, .int .i64 i_1.A, .int .i64 i_1.B] 71, arrK k_types_Row b1 [v_k_0_2, v_k_0_4, v_k_0_6, .int .i64 k_0_8, v_k_0_9, v_k_0_11, .int .u8 k_0_13, .bool k_0_14, .int .i64 k_0_15, .int .i64 k_0_16, .int .i64 k_0_17, v_k_0_18, v_k_0_20] 200 l22 [] 97] w2) 3 #[true, true, true, true, true, true, true, true, true, true, true, true, true, true, true, true, true, true, true, true, false, true, true, false, false] (fun z => ?_) (fun J5284 => ?_)
    ·refine DT.one 20 rfl (by kernel_rfl) rfl ?_
     refine SP.lit (k := (kInt .u8)) (xs := [x60.Result]) (vs := [.int .u8 x60.Result]) (cells := [.int .u8 x60.Result]) Tryz.underlying38 inf5 rfl rfl rfl rfl rfl rfl rfl rfl (fun _ ap => ⟨[.int .u8 x60.Result], _, rfl, rfl, rfl⟩) rfl rfl rfl (fun v4270 => go ?_)
     refine QE.atT (fun w2 hw => (St.selO [1, 2, 4, 5, 6, 7, 8] rfl rfl hw)) ?_
     refine DT.list (l2 := #[true, true, true, true, true, true, true, true, true, true, true, true, true, true, true, true, true, true, true, true, true, true, true, false, false]) (by kernel_rfl) ?_
     exact DT.weak (by exact ⟨rfl, rfl, rfl, trivial⟩) (by exact fun w2 hw => hw) (J5282 v4270)
    refine DT.any 20 [22] (by kernel_rfl) ⟨⟨_, rfl, rfl, ?_⟩, ⟨_, rfl, rfl, ?_⟩, trivial⟩
    ·refine SP.lit (k := (kInt .u8)) (xs := [x60.Result]) (vs := [.int .u8 x60.Result]) (cells := [.int .u8 x60.Result]) Tryz.underlying38 inf5 rfl rfl rfl rfl rfl rfl rfl rfl (fun _ ap => ⟨[.int .u8 x60.Result], _, rfl, rfl, rfl⟩) rfl rfl rfl (fun v4270 => go ?_)
     refine QE.atT (fun w2 hw => (St.selO [1, 2, 4, 5, 6, 7, 8] rfl rfl hw)) ?_
     refine DT.list (l2 := #[true, true, true, true, true, true, true, true, true, true, true, true, true, true, true, true, true, true, true, true, true, true, false, false, false]) (by kernel_rfl) ?_
     exact DT.weak (by exact ⟨rfl, rfl, rfl, rfl, rfl, trivial⟩) (by exact fun w2 hw => hw) (J5283 v4270)
    refine SP.have (fun w2 hw => slR.shape (St.pers 4 rfl see.sub see.dj hw)) (fun hs_v55 => ?_)
    refine SP.store (v := v55) (vs := [v55]) 2 (by rfl) sz38 (by rfl) (by rfl) (by rfl) (one_cells hs_v55) (one_cons hs_v55 (rfl)) (by rfl) (go ?_)
    refine QE.atT (fun w2 hw => (St.selO [0, 1, 3, 4, 5, 6, 7] rfl rfl hw)) ?_
    refine DT.list (l2 := #[true, true, true, true, true, true, true, true, true, true, true, true, true, true, true, true, true, true, true, true, false, true, true, false, false]) (by kernel_rfl) ?_
    exact DT.weak (by exact ⟨rfl, rfl, rfl, trivial⟩) (by exact fun w2 hw => hw) (J5284 ())
   refine go ?_
   refine CP.seq (go ?_)
   refine CP.ci ho (fun ho => ?_) fun ho => ?_
   ·refine go ?_
    refine SP.val (Val.loadKPre1 see 7 rfl Tryz.underlying5 rfl rfl rfl) rfl rfl rfl ?_
    refine SP.lit (k := (kInt .u8)) (xs := [k_0_13]) (vs := [.int .u8 k_0_13]) (cells := [.int .u8 k_0_13]) Tryz.underlying38 inf5 rfl rfl rfl rfl rfl rfl rfl rfl (fun _ ap => ⟨[.int .u8 k_0_13], _, rfl, rfl, rfl⟩) rfl rfl rfl (fun v5287 => go ?_)
    refine SP.have (fun w2 hw => slO.shape (St.own 0 rfl see.sub see.dj hw)) (fun hs_v5287 => ?_)
    refine SP.store (v := v5287) (vs := [v5287]) 3 (by rfl) sz38 (by rfl) (by rfl) (by rfl) (one_cells hs_v5287) (one_cons hs_v5287 (rfl)) (by rfl) (go ?_)
    exact QE.meet fun a w2 ha hw => ⟨l22, [k_0_13], t28.1.Gives, v5287, v30, ho, ha.sub sb, (St.selO [4, 7, 2, 5] rfl rfl (St.freezeS hw 0 rfl see))⟩
   refine go ?_
   refine CP.seq (go ?_)
   refine CP.ci ho (fun ho => ?_) fun ho => ?_
   ·refine go ?_
    refine CP.seq (go ?_)
    refine SP.have (fun w2 hw => slO.shape (St.own 1 rfl see.sub see.dj hw)) (fun hs_v38 => ?_)
    refine SP.store (v := v38) (vs := [v38]) 2 (by rfl) sz38 (by rfl) (by rfl) (by rfl) (one_cells hs_v38) (one_cons hs_v38 (rfl)) (by rfl) (go ?_)
    refine SP.imp (fun w2 hw => St.selO [1, 0, 2, 3, 4, 5, 6, 7] rfl rfl hw) ?_
    obtain ⟨hb, ho⟩ := must_some ho
    refine SP.callA see (caps := []) (fun r => HO.pand (r = .tuple #[]) (HO.seps [slO (kInt .u8) 5 v38 t37.reverse])) fn136 rfl rfl rfl rfl (fun w2 hP h1 sub s1 d1 ap hI => reverse136_trip hb sub s1 d1 hI) (SP.k0 ?_)
    clear hb
    refine go ?_
    refine SP.lit (k := (kInt .u8)) (xs := [0]) (vs := [.int .u8 0]) (cells := [.int .u8 0]) Tryz.underlying38 inf5 rfl rfl rfl rfl rfl rfl rfl rfl (fun _ ap => ⟨[.int .u8 0], _, rfl, rfl, rfl⟩) rfl rfl rfl (fun v5290 => ?_)
    refine SP.freezeS see 0 rfl ?_
    obtain ⟨hb, ho⟩ := must_some ho
    refine SP.append see 1 rfl 0 rfl Tryz.underlying38 inf5 rfl rfl hb rfl rfl rfl rfl rfl (fun v5292 => ?_)
    clear hb
    refine go ?_
    refine SP.have (fun w2 hw => slO.shape (St.own 1 rfl see.sub see.dj hw)) (fun hs_v5292 => ?_)
    refine SP.store (v := v5292) (vs := [v5292]) 2 (by rfl) sz38 (by rfl) (by rfl) (by rfl) (one_cells hs_v5292) (one_cons hs_v5292 (rfl)) (by rfl) (go ?_)
    exact QE.meet fun a w2 ha hw => ⟨l22, ([0] ++ [0]), t37.reverse, v5292, v38, ho, ha.sub sb, (St.selP [0, 2, 3, 4, 5, 6, 7, 8] rfl (St.selO [0, 6, 1, 4] rfl rfl (St.freezeS hw 1 rfl see)))⟩
   refine go ?_
   refine CP.ci ho (fun ho => ?_) fun ho => ?_
   ·refine go ?_
    refine SP.val (Val.lenW (fun w2 hw => slO.whole (St.own 1 rfl see.sub see.dj hw)) Tryz.underlying38 rfl) rfl rfl rfl (go ?_)
    refine CP.ci ho (fun ho => ?_) fun ho => ?_
    ·refine go ?_
     refine SP.val (Val.lenW (fun w2 hw => slO.whole (St.own 1 rfl see.sub see.dj hw)) Tryz.underlying38 rfl) rfl rfl rfl (go ?_)
     refine SP.freezeS see 1 rfl ?_
     obtain ⟨hz, ho⟩ := must_some ho
     refine SP.sliceFromP see 0 rfl Tryz.underlying38 sz5 rfl rfl hz rfl rfl (fun v5294 => ?_)
     clear hz
     obtain ⟨t5296, hc, ho⟩ := bind_some ho
     refine SP.callK see (caps := []) _ fn137 rfl rfl rfl rfl (fun w2 hP hs sub ap => slices_Repeat_uint8_uint8.ok _ _ _ _ hc w2 hP sub (ap.get 0 rfl)) (SP.k1 fun v5297 => ?_)
     clear hc
     refine go ?_
     refine SP.have (fun w2 hw => slO.shape (St.own 0 rfl see.sub see.dj hw)) (fun hs_v5297 => ?_)
     refine SP.store (v := v5297) (vs := [v5297]) 2 (by rfl) sz38 (by rfl) (by rfl) (by rfl) (one_cells hs_v5297) (one_cons hs_v5297 (rfl)) (by rfl) (go ?_)
     exact QE.meet fun a w2 ha hw => ⟨t5296, v5297, ho, ha.sub sb, (St.selP [2, 3, 4, 5, 6, 7, 8] rfl (St.selO [0, 1, 2, 3, 5, 7] rfl rfl hw))⟩
    refine go ?_
    exact QE.meet fun a w2 ha hw => ⟨t28.1.Gives, v30, ho, ha.sub sb, (St.selO [4, 0, 2, 3, 5, 7] rfl rfl hw)⟩
   refine go ?_
   exact QE.meet fun a w2 ha hw => ⟨t28.1.Gives, v30, ho, ha.sub sb, (St.selO [4, 0, 2, 3, 5, 7] rfl rfl hw)⟩
  refine go ?_
  refine CP.ci ho (fun ho => ?_) fun ho => ?_
  ·refine go ?_
   exact QE.meet fun a w2 ha hw => ⟨(decide (i_1.Op = 3)), ho, ha.sub sb, hw⟩
  refine go ?_
  exact QE.meet fun a w2 ha hw => ⟨(decide (i_1.Op = 5)), ho, ha.sub sb, hw⟩
 refine go ?_
 refine CP.ci ho (fun ho => ?_) fun ho => ?_
 ·refine go ?_
  exact QE.meet fun a w2 ha hw => ⟨(decide (i_1.Op = 1)), ho, ha.sub sb, (St.selP [1, 2, 3, 4, 5, 6, 7] rfl hw)⟩
 refine go ?_
 refine CP.ci ho (fun ho => ?_) fun ho => ?_
 ·refine go ?_
  exact QE.meet fun a w2 ha hw => ⟨(decide (i_1.Op = 2)), ho, ha.sub sb, (St.selP [1, 2, 3, 4, 5, 6, 7] rfl hw)⟩
 refine go ?_
 exact QE.meet fun a w2 ha hw => ⟨(decide (i_1.Op = 4)), ho, ha.sub sb, (St.selP [1, 2, 3, 4, 5, 6, 7] rfl hw)⟩
inductive types_look_after_s1.S where
  | start
  | l1 (t26 : op_Shape × (List types_Row)) (x60 : Int)
def types_look_after_s1.F (k_0_2 : List api_Value) (k_0_4 : List api_Value) (k_0_6 : List api_Method) (k_0_8 : Int) (k_0_9 : List Int) (k_0_11 : List Int) (k_0_13 : Int) (k_0_14 : Bool) (k_0_15 : Int) (k_0_16 : Int) (k_0_17 : Int) (k_0_18 : List api_Instr) (k_0_20 : List Int) (l22 : List types_Row) (i_1 : api_Instr) (row_2 : (List Int)) : types_look_after_s1.S → Option (types_look_after_s1.S ⊕ (((List Int) × Int) × (List types_Row)))
  | .start => (types_look_shape_s1.f k_0_2 k_0_4 k_0_6 k_0_8 k_0_9 k_0_11 k_0_13 k_0_14 k_0_15 k_0_16 k_0_17 k_0_18 k_0_20 l22 i_1 row_2).bind fun t26 => if (IntKind.i64.wrap ((row_2.length : Int) - (t26.1.Takes.length : Int))) < 0 then (some (.inr (([], 101), t26.2))) else (some (.inl (.l1 t26 0)))
  | .l1 t26 x60 => if x60 < (t26.1.Takes.length : Int) then ((elt t26.1.Takes x60).bind fun x64 => (if x64 ≠ 0 then ((elt row_2 (IntKind.i64.wrap ((IntKind.i64.wrap ((row_2.length : Int) - (t26.1.Takes.length : Int))) + x60))).bind fun x69 => some (decide (x64 ≠ x69))) else (some false)).bind fun t70 => if t70 = true then (some (.inr (([], 100), t26.2))) else (some (.inl (.l1 t26 (IntKind.i64.wrap (x60 + 1)))))) else (if (0 : Int) ≤ (IntKind.i64.wrap ((row_2.length : Int) - (t26.1.Takes.length : Int))) ∧ (IntKind.i64.wrap ((row_2.length : Int) - (t26.1.Takes.length : Int))) ≤ (row_2.length : Int) then ((slices_Concat_uint8_uint8.f [(row_2.take (IntKind.i64.wrap ((row_2.length : Int) - (t26.1.Takes.length : Int)) : Int).toNat), t26.1.Gives]).bind fun t84 => some (.inr ((t84, 0), t26.2))) else none)
def types_look_after_s1.f (k_0_2 : List api_Value) (k_0_4 : List api_Value) (k_0_6 : List api_Method) (k_0_8 : Int) (k_0_9 : List Int) (k_0_11 : List Int) (k_0_13 : Int) (k_0_14 : Bool) (k_0_15 : Int) (k_0_16 : Int) (k_0_17 : Int) (k_0_18 : List api_Instr) (k_0_20 : List Int) (l22 : List types_Row) (i_1 : api_Instr) (row_2 : (List Int)) : Option (((List Int) × Int) × (List types_Row)) := runF (types_look_after_s1.F k_0_2 k_0_4 k_0_6 k_0_8 k_0_9 k_0_11 k_0_13 k_0_14 k_0_15 k_0_16 k_0_17 k_0_18 k_0_20 l22 i_1 row_2) .start
theorem types_look_after_s1.ok (k_0_2 : List api_Value) (k_0_4 : List api_Value) (k_0_6 : List api_Method) (k_0_8 : Int) (k_0_9 : List Int) (k_0_11 : List Int) (k_0_13 : Int) (k_0_14 : Bool) (k_0_15 k_0_16 k_0_17 : Int) (k_0_18 : List api_Instr) (k_0_20 : List Int) (l22 : List types_Row) (i_1 : api_Instr) (row_2 : (List Int)) (v_k_0_2 v_k_0_4 : Value) (v_k_0_6 v_k_0_9 : Value) (v_k_0_11 v_k_0_18 : Value) (v_k_0_20 v_row_2 : Value) (r : ((List Int) × Int) × (List types_Row)) (H : types_look_after_s1.f k_0_2 k_0_4 k_0_6 k_0_8 k_0_9 k_0_11 k_0_13 k_0_14 k_0_15 k_0_16 k_0_17 k_0_18 k_0_20 l22 i_1 row_2 = some r) (w : World) (hV : Hp) (sV : Sub hV (hp w)) (h0 : slR k_api_Value hV v_k_0_2 k_0_2) (h1 : slR k_api_Value hV v_k_0_4 k_0_4) (h2 : slR k_api_Method hV v_k_0_6 k_0_6) (h3 : slR (kInt .u8) hV v_k_0_9 k_0_9) (h4 : slR (kInt .u8) hV v_k_0_11 k_0_11) (h5 : slR k_api_Instr hV v_k_0_18 k_0_18) (h6 : slR (kInt .u8) hV v_k_0_20 k_0_20) (h7 : slR (kInt .u8) hV v_row_2 row_2) (b1 : Nat) (hA : Hp) (sA : Sub hA (hp w)) (dA : Dj hV hA) (hI : (arrK k_types_Row b1 [v_k_0_2, v_k_0_4, v_k_0_6, .int .i64 k_0_8, v_k_0_9, v_k_0_11, .int .u8 k_0_13, .bool k_0_14, .int .i64 k_0_15, .int .i64 k_0_16, .int .i64 k_0_17, v_k_0_18, v_k_0_20] 200 l22 [] 97).p hV hA) :
    Trip Tryz.prog 74 [.pointer (some ⟨b1, 0, none⟩), .agg #[.int .u8 i_1.Op, .int .i64 i_1.A, .int .i64 i_1.B], v_row_2].toArray hA hV w (fun v => HO.ex fun u0 : Value => HO.pand (v = .tuple #[u0, .int .i64 r.1.2]) (HO.seps [slO (kInt .u8) 5 u0 r.1.1, arrK k_types_Row b1 [v_k_0_2, v_k_0_4, v_k_0_6, .int .i64 k_0_8, v_k_0_9, v_k_0_11, .int .u8 k_0_13, .bool k_0_14, .int .i64 k_0_15, .int .i64 k_0_16, .int .i64 k_0_17, v_k_0_18, v_k_0_20] 200 r.2 [] 97])) := by
 have see : Sees w hA hV := ⟨sV, dA⟩
 refine Trip.of (P := Tryz.prog) (n := ⟨52, []⟩) Tryz.func74 rfl ⟨rfl, rfl⟩ rfl (St.beginA (os := [arrK k_types_Row b1 [v_k_0_2, v_k_0_4, v_k_0_6, .int .i64 k_0_8, v_k_0_9, v_k_0_11, .int .u8 k_0_13, .bool k_0_14, .int .i64 k_0_15, .int .i64 k_0_16, .int .i64 k_0_17, v_k_0_18, v_k_0_20] 200 l22 [] 97]) sA (aS h0 (aS h1 (aS h2 (aS h3 (aS h4 (aS h5 (aS h6 (aS h7 (All.nil _))))))))) ⟨hA, em, Dj.em_right _, Sub.refl _, Sub.em _, hI, trivial⟩) ?_
 obtain ⟨n0, hi⟩ := runF_iff.1 H
 obtain ⟨m0, o, hm0, ho, hr⟩ := iter_some hi
 clear hi
 refine go ?_
 refine SP.box rfl rfl rfl rfl fun b24 => go ?_
 refine SP.val (Val.loadA 0 rfl Tryz.underlying71 rfl sz71 rfl rfl rfl) rfl rfl rfl (go ?_)
 refine SP.imp (fun w2 hw => St.selO [1, 0] rfl rfl hw) ?_
 obtain ⟨t26, hc, ho⟩ := bind_some ho
 refine SP.callA see (caps := []) _ fn112 rfl rfl rfl rfl (fun w2 hP h1 sub s1 d1 ap hI => types_look_shape_s1.ok _ _ _ _ _ _ _ _ _ _ _ _ _ _ _ _ _ _ _ _ _ _ _ _ _ hc w2 hP sub (ap.get 0 rfl) (ap.get 1 rfl) (ap.get 2 rfl) (ap.get 3 rfl) (ap.get 4 rfl) (ap.get 5 rfl) (ap.get 6 rfl) (ap.get 7 rfl) _ h1 s1 d1 hI) (SP.k2 fun v27 v28 => ?_)
 refine SP.imp (fun w2 h => St.toP 0 rfl h) ?_
 clear hc
 refine SP.alloc (cs := [(.slice none 0 0), (.slice none 0 0)]) inf186 rfl rfl (fun b31 => ?_)
 refine SP.have (fun w2 hw => slR.shape (St.pers 0 rfl see.sub see.dj hw)) (fun hs_v27 => ?_)
 refine SP.have (fun w2 hw => slO.shape (St.own 1 rfl see.sub see.dj hw)) (fun hs_v28 => ?_)
 refine SP.store (v := .agg #[v27, v28]) (vs := [v27, v28]) 0 (by rfl) sz186 (by rfl) (by rfl) (by rfl) (by rfl) (one_cons hs_v27 (one_cons hs_v28 (rfl))) (by rfl) (go ?_)
 refine CP.seq (go ?_)
 refine CP.ci ho (fun ho => ?_) fun ho => ?_
 ·refine go ?_
  obtain rfl := fin ho hr
  exact QE.rt (fun _ h => St.selO [0, 3] rfl rfl (St.addO (slO.nil (kInt .u8) 5) h))
 refine go ?_
 refine CP.seq (go ?_)
 obtain rfl := Option.some.inj ho
 refine CP.loop (fun cl1 a w2 => ∃ x60 : Int, cl1 ≤ m0 ∧ iter (types_look_after_s1.F k_0_2 k_0_4 k_0_6 k_0_8 k_0_9 k_0_11 k_0_13 k_0_14 k_0_15 k_0_16 k_0_17 k_0_18 k_0_20 l22 i_1 row_2) cl1 (.l1 t26 x60) = some r ∧ Env ⟨52, []⟩ [(2, v_row_2), (8, .pointer (some ⟨b31, 0, none⟩)), (9, .int .i64 (IntKind.i64.wrap ((row_2.length : Int) - (t26.1.Takes.length : Int)))), (25, v27), (26, .int .i64 (t26.1.Takes.length : Int)), (27, .int .i64 x60)] a ∧ St w hA hV [slP (kInt .u8) v27 t26.1.Takes, slP k_api_Value v_k_0_2 k_0_2, slP k_api_Value v_k_0_4 k_0_4, slP k_api_Method v_k_0_6 k_0_6, slP (kInt .u8) v_k_0_9 k_0_9, slP (kInt .u8) v_k_0_11 k_0_11, slP k_api_Instr v_k_0_18 k_0_18, slP (kInt .u8) v_k_0_20 k_0_20, slP (kInt .u8) v_row_2 row_2] [boxO b31 [v27, v28] 186, slO (kInt .u8) 5 v28 t26.1.Gives, arrK k_types_Row b1 [v_k_0_2, v_k_0_4, v_k_0_6, .int .i64 k_0_8, v_k_0_9, v_k_0_11, .int .u8 k_0_13, .bool k_0_14, .int .i64 k_0_15, .int .i64 k_0_16, .int .i64 k_0_17, v_k_0_18, v_k_0_20] 200 t26.2 [] 97] w2) m0 (fun a w2 ha hw => ⟨0, Nat.le_refl _, hr, ha.sub sb, (St.selO [0, 1, 2] rfl rfl hw)⟩) ?_
 clear hr
 rintro cl1 a w2 ⟨x60, hc_l1, hi, ha, hw⟩
 obtain ⟨m61, o, hm_m61, ho, hr⟩ := iter_some hi
 refine CP.app ha hw ?_
 clear ha hw a w2 hi
 refine go ?_
 refine CP.seq ?_
 refine CP.ci ho (fun ho => ?_) fun ho => ?_
 ·refine go ?_
  refine CP.seq (go ?_)
  obtain ⟨x64, hx, ho⟩ := elt_bind ho
  refine SP.indexP see 0 rfl Tryz.underlying38 sz5 hx.1 hx.2 rfl rfl rfl rfl (fun p62 => ?_)
  clear hx
  refine SP.val (Val.loadP1 see 0 rfl (fun _ _ e => e) Tryz.underlying5 rfl rfl) rfl rfl rfl (go ?_)
  obtain ⟨t70, hg_t70, ho⟩ := bind_some ho
  refine SP.jn 9 [2, 8, 9, 25, 26, 27] 43 (.bool t70) ?_ ?_
  ·clear hg_t70
   refine go ?_
   refine CP.cb ho (fun ho => ?_) fun ho => ?_
   ·refine go ?_
    obtain rfl := fin ho hr
    exact QE.rt (fun _ h => St.selO [0, 3] rfl rfl (St.addO (slO.nil (kInt .u8) 5) h))
   refine go ?_
   obtain rfl := Option.some.inj ho
   exact QE.lower m61 (by omega) fun a w2 ha hw => ⟨(IntKind.i64.wrap (x60 + 1)), (by omega), hr, ha.sub sb, (St.selP [1, 2, 3, 4, 5, 6, 7, 8, 9] rfl hw)⟩
  refine SP.ci 34 hg_t70 (fun hq66 ho => ?_) fun hq66 ho => ?_
  ·refine go ?_
   obtain ⟨x69, hx, ho⟩ := elt_bind ho
   refine SP.indexP see 9 rfl Tryz.underlying38 sz5 hx.1 hx.2 rfl rfl rfl rfl (fun p67 => ?_)
   clear hx
   refine SP.val (Val.loadP1 see 0 rfl (fun _ _ e => e) Tryz.underlying5 rfl rfl) rfl rfl rfl (go ?_)
   obtain rfl := Option.some.inj ho
   exact QE.jn fun w2 hw => (St.selP [1, 2, 3, 4, 5, 6, 7, 8, 9, 10] rfl hw)
  refine go ?_
  obtain rfl := Option.some.inj ho
  exact QE.jn fun w2 hw => hw
 refine go ?_
 refine CP.seq ?_
 refine CP.drawA (by kernel_rfl) (fun w2 k h => h.drawn k) ?_
 refine DA.ph 0 5 ?_
 refine DT.tk 0 ?_
 refine DT.tk 1 ?_
 refine DT.tk 3 ?_
 refine DT.tk 4 ?_
 refine DT.one 2 rfl (by kernel_rfl) rfl ?_
 obtain ⟨hz, ho⟩ := must_some ho
 refine SP.sliceToP see 8 rfl Tryz.underlying38 sz5 rfl rfl hz rfl rfl (fun v80 => ?_)
 clear hz
 refine go ?_
 refine QE.atT (fun w2 hw => (St.selP [1, 2, 3, 4, 5, 6, 7, 8, 9] rfl hw)) ?_
 refine DT.next (by kernel_rfl) ?_
 refine DA.one 5 rfl (by kernel_rfl) ?_
 refine SP.freezeS see 1 rfl ?_
 refine SP.litS (k := (kSl (kInt .u8))) (xs := [(row_2.take (IntKind.i64.wrap ((row_2.length : Int) - (t26.1.Takes.length : Int)) : Int).toNat), t26.1.Gives]) (vs := [v80, v28]) Tryz.underlying141 inf38 rfl rfl rfl rfl rfl rfl (fun _ ap => ⟨slR.cells1 (ap.get 1 rfl), slR.cells1 (ap.get 0 rfl), trivial⟩) (fun _ ap => ⟨[v80], _, rfl, ⟨_, rfl, ap.get 1 rfl⟩, ⟨[v28], _, rfl, ⟨_, rfl, ap.get 0 rfl⟩, rfl⟩⟩) rfl rfl rfl (fun v82 => go ?_)
 refine QE.atA ?_
 refine DA.one 6 rfl (by kernel_rfl) ?_
 obtain ⟨t84, hc, ho⟩ := bind_some ho
 refine SP.callKO see (caps := []) _ fn43 rfl rfl rfl rfl (fun w2 hs => slices_Concat_uint8_uint8.ok _ _ _ hc w2 (hp w2) (Sub.refl _) (slO.read (St.own 0 rfl see.sub see.dj hs) (Sub.refl _) (Sub.refl _))) (fun v a a2 b ⟨v85, e, h⟩ => ⟨v85, e, (Sep.fcons (fun _ => slO.flip (fun _ _ _ _ h => h)) (fun _ => Sep.fnil)) h⟩) (SP.k1 fun v85 => ?_)
 clear hc
 refine go ?_
 refine QE.atA ?_
 refine DA.one 7 rfl (by kernel_rfl) (go ?_)
 refine QE.atA ?_
 refine DA.one 8 rfl (by kernel_rfl) (go ?_)
 refine QE.atA ?_
 refine DA.done (by kernel_rfl) (go ?_)
 obtain rfl := fin ho hr
 exact QE.rt (fun _ h => St.selO [0, 3] rfl rfl h)
def op_Goes.f (op_0 : Int) : Option Bool :=
  (op_Known.f op_0).bind fun t1 => some (((t1 && (decide (op_0 ≠ 26))) && (decide (op_0 ≠ 31))) && (decide (op_0 ≠ 32)))
theorem op_Goes.ok (op_0 : Int)  (r : Bool) (H : op_Goes.f op_0 = some r) (w : World) (hV : Hp) (sV : Sub hV (hp w))  :
    Trip Tryz.prog 113 [.int .u8 op_0].toArray em hV w (fun v => HO.pure (v = .bool r)) := by
 refine Trip.go 17 Tryz.func113 sV (All.nil _) fun see => ?_
 have ho := H
 refine go ?_
 obtain ⟨t1, hc, ho⟩ := bind_some ho
 refine SP.callV see (caps := []) (.bool t1) fn138 rfl rfl rfl rfl (fun w2 hP hs sub ap => op_Known.ok _  _ hc w2 hP sub ) ?_
 clear hc
 refine go ?_
 refine SP.jn 3 [0] 8 (.bool (t1 && (decide (op_0 ≠ 26)))) ?_ ?_
 ·refine go ?_
  refine SP.jn 3 [0] 12 (.bool ((t1 && (decide (op_0 ≠ 26))) && (decide (op_0 ≠ 31)))) ?_ ?_
  ·refine go ?_
   refine SP.jn 3 [] 16 (.bool (((t1 && (decide (op_0 ≠ 26))) && (decide (op_0 ≠ 31))) && (decide (op_0 ≠ 32)))) ?_ ?_
   ·refine go ?_
    obtain rfl := Option.some.inj ho
    exact QE.rt (fun _ h => h)
   refine SP.bb 13 (fun hq7 => ?_) fun hq7 => ?_
   ·refine go ?_
    exact QE.jb (and_t hq7 rfl) fun w2 hw => hw
   refine go ?_
   exact QE.jb (and_f hq7) fun w2 hw => hw
  refine SP.bb 9 (fun hq5 => ?_) fun hq5 => ?_
  ·refine go ?_
   exact QE.jb (and_t hq5 rfl) fun w2 hw => hw
  refine go ?_
  exact QE.jb (and_f hq5) fun w2 hw => hw
 refine SP.bb 5 (fun hq3 => ?_) fun hq3 => ?_
 ·refine go ?_
  exact QE.jb (and_t hq3 rfl) fun w2 hw => hw
 refine go ?_
 exact QE.jb (and_f hq3) fun w2 hw => hw
def op_Leads.f (op_0 : Int) : Option Bool :=
  (op_sign.f op_0).bind fun t1 => some (decide (t1 = 5))
theorem op_Leads.ok (op_0 : Int)  (r : Bool) (H : op_Leads.f op_0 = some r) (w : World) (hV : Hp) (sV : Sub hV (hp w))  :
    Trip Tryz.prog 114 [.int .u8 op_0].toArray em hV w (fun v => HO.pure (v = .bool r)) := by
 refine Trip.go 6 Tryz.func114 sV (All.nil _) fun see => ?_
 have ho := H
 refine go ?_
 obtain ⟨t1, hc, ho⟩ := bind_some ho
 refine SP.callV see (caps := []) (.int .i64 t1) fn139 rfl rfl rfl rfl (fun w2 hP hs sub ap => op_sign.ok _  _ hc w2 hP sub ) ?_
 clear hc
 refine go ?_
 obtain rfl := Option.some.inj ho
 exact QE.rt (fun _ h => h)
def flow_Ways.j2 (l_0 : (List api_Instr)) (a1 : Int) (l31 : List Int) : Option ((List Int) × Int) :=
  if l31.length < 4611686018427387904 then (if (l31.mergeSort fun x y => decide (x ≤ y)).length < 4611686018427387904 then (some ((Lib.compact (l31.mergeSort fun x y => decide (x ≤ y))), 0)) else none) else none
def flow_Ways.j1 (l_0 : (List api_Instr)) (a1 : Int) (x9 : api_Instr) (l19 : List Int) : Option ((List Int) × Int) :=
  if x9.Op = 29 then (if (l19.length + [IntKind.i64.wrap (x9.A + 1)].length) * 8 ≤ 140737488355328 then (flow_Ways.j2 l_0 a1 (l19 ++ [IntKind.i64.wrap (x9.A + 1)])) else none) else ((op_Leads.f x9.Op).bind fun t25 => if t25 = true then (if (l19.length + [x9.A].length) * 8 ≤ 140737488355328 then (flow_Ways.j2 l_0 a1 (l19 ++ [x9.A])) else none) else (flow_Ways.j2 l_0 a1 l19))
def flow_Ways.f (l_0 : (List api_Instr)) (a1 : Int) : Option ((List Int) × Int) :=
  (flow_Check.f l_0).bind fun t2 => if t2 ≠ 0 then (some ([], t2)) else (if ((decide (a1 < 0)) || (decide (a1 ≥ (l_0.length : Int)))) = true then (some ([], 2)) else ((elt l_0 a1).bind fun x9 => (op_Goes.f x9.Op).bind fun t12 => if t12 = true then (if (([] : List Int).length + [IntKind.i64.wrap (a1 + 1)].length) * 8 ≤ 140737488355328 then (flow_Ways.j1 l_0 a1 x9 (([] : List Int) ++ [IntKind.i64.wrap (a1 + 1)])) else none) else (flow_Ways.j1 l_0 a1 x9 [])))
theorem flow_Ways.ok (l_0 : (List api_Instr)) (a1 : Int) (v_l_0 : Value)  (r : (List Int) × Int) (H : flow_Ways.f l_0 a1 = some r) (w : World) (hV : Hp) (sV : Sub hV (hp w)) (h0 : slR k_api_Instr hV v_l_0 l_0) (h1 : (arrP k_arr221 0 tab0).p hV) :
    Trip Tryz.prog 75 [v_l_0, .int .i64 a1].toArray em hV w (fun v => HO.ex fun u0 : Value => HO.pand (v = .tuple #[u0, .int .i64 r.2]) (HO.seps [slO (kInt .i64) 3 u0 r.1])) := by
 refine Trip.go 57 Tryz.func75 sV (aS h0 (All.cons (x := arrP k_arr221 0 tab0) h1 (All.nil _))) fun see => ?_
 have ho := H
 refine go ?_
 refine CP.seq (go ?_)
 obtain ⟨t2, hc, ho⟩ := bind_some ho
 refine SP.callV see (caps := []) (.int .i64 t2) fn42 rfl rfl rfl rfl (fun w2 hP hs sub ap => flow_Check.ok _ _ _ hc w2 hP sub (ap.get 0 rfl) (ap.get 1 rfl)) ?_
 clear hc
 refine go ?_
 refine CP.ci ho (fun ho => ?_) fun ho => ?_
 ·refine go ?_
  obtain rfl := Option.some.inj ho
  exact QE.rt (fun _ h => St.selO [0] rfl rfl (St.addO (slO.nil (kInt .i64) 3) h))
 refine go ?_
 refine CP.seq (go ?_)
 refine SP.jn 5 [0, 1] 21 (.bool ((decide (a1 < 0)) || (decide (a1 ≥ (l_0.length : Int))))) ?_ ?_
 ·refine go ?_
  refine CP.cb ho (fun ho => ?_) fun ho => ?_
  ·refine go ?_
   obtain rfl := Option.some.inj ho
   exact QE.rt (fun _ h => St.selO [0] rfl rfl (St.addO (slO.nil (kInt .i64) 3) h))
  refine go ?_
  obtain ⟨x9, hx, ho⟩ := elt_bind ho
  refine SP.indexP see 0 rfl Tryz.underlying39 sz71 hx.1 hx.2 rfl rfl rfl rfl (fun p7 => ?_)
  clear hx
  refine k_api_Instr.load see 0 rfl Tryz.underlying71 rfl sz71 rfl rfl rfl ?_
  refine SP.alloc (cs := [.int .u8 0, .int .i64 0, .int .i64 0]) inf71 rfl rfl (fun b10 => ?_)
  refine SP.store (v := .agg #[.int .u8 x9.Op, .int .i64 x9.A, .int .i64 x9.B]) (vs := [.int .u8 x9.Op, .int .i64 x9.A, .int .i64 x9.B]) 0 (by rfl) sz71 (by rfl) (by rfl) (by rfl) (by rfl) (by rfl) (by rfl) (go ?_)
  refine CP.join (fun a w2 => ∃ l19 : List Int, ∃ v20 : Value, flow_Ways.j1 l_0 a1 x9 l19 = some r ∧ Env ⟨57, []⟩ [(7, v20), (8, .pointer (some ⟨b10, 0, none⟩))] a ∧ St w em hV [arrP k_arr221 0 tab0] [slO (kInt .i64) 3 v20 l19, boxO b10 [.int .u8 x9.Op, .int .i64 x9.A, .int .i64 x9.B] 71] w2) ?_ ?_
  ·rintro a w2 ⟨l19, v20, ho, ha, hw⟩
   refine CP.app ha hw ?_
   clear ha hw a w2
   refine CP.join (fun a w2 => ∃ l31 : List Int, ∃ v32 : Value, flow_Ways.j2 l_0 a1 l31 = some r ∧ Env ⟨57, []⟩ [(7, v32)] a ∧ St w em hV [arrP k_arr221 0 tab0] [slO (kInt .i64) 3 v32 l31] w2) ?_ ?_
   ·rintro a w2 ⟨l31, v32, ho, ha, hw⟩
    refine CP.app ha hw ?_
    clear ha hw a w2
    refine go ?_
    obtain ⟨hb, ho⟩ := must_some ho
    refine SP.callA see (caps := []) (fun r => HO.pand (r = .tuple #[]) (HO.seps [slO (kInt .i64) 3 v32 (l31.mergeSort fun x y => decide (x ≤ y))])) fn39 rfl rfl rfl rfl (fun w2 hP h1 sub s1 d1 ap hI => srti39_trip hb sub s1 d1 hI) (SP.k0 ?_)
    clear hb
    refine go ?_
    obtain ⟨hb, ho⟩ := must_some ho
    refine SP.callA see (caps := []) (fun r => HO.ex fun u : Value => HO.pand (r = u) (HO.seps [slO (kInt .i64) 3 u (Lib.compact (l31.mergeSort fun x y => decide (x ≤ y)))])) fn40 rfl rfl rfl rfl (fun w2 hP h1 sub s1 d1 ap hI => compacti40_trip hb sub s1 d1 hI) (SP.k1 fun v35 => ?_)
    clear hb
    refine go ?_
    obtain rfl := Option.some.inj ho
    exact QE.rt (fun _ h => St.selO [0] rfl rfl h)
   refine go ?_
   refine CP.ci ho (fun ho => ?_) fun ho => ?_
   ·refine go ?_
    refine SP.lit (k := (kInt .i64)) (xs := [IntKind.i64.wrap (x9.A + 1)]) (vs := [.int .i64 (IntKind.i64.wrap (x9.A + 1))]) (cells := [.int .i64 (IntKind.i64.wrap (x9.A + 1))]) Tryz.underlying55 inf3 rfl rfl rfl rfl rfl rfl rfl rfl (fun _ ap => ⟨[.int .i64 (IntKind.i64.wrap (x9.A + 1))], _, rfl, rfl, rfl⟩) rfl rfl rfl (fun v21 => ?_)
    refine SP.freezeS see 0 rfl ?_
    obtain ⟨hb, ho⟩ := must_some ho
    refine SP.append see 0 rfl 0 rfl Tryz.underlying55 inf3 rfl rfl hb rfl rfl rfl rfl rfl (fun v23 => ?_)
    clear hb
    refine go ?_
    exact QE.meet fun a w2 ha hw => ⟨(l19 ++ [IntKind.i64.wrap (x9.A + 1)]), v23, ho, ha.sub sb, (St.selP [1] rfl (St.selO [0] rfl rfl hw))⟩
   refine go ?_
   obtain ⟨t25, hc, ho⟩ := bind_some ho
   refine SP.callV see (caps := []) (.bool t25) fn114 rfl rfl rfl rfl (fun w2 hP hs sub ap => op_Leads.ok _  _ hc w2 hP sub ) ?_
   clear hc
   refine go ?_
   refine CP.cb ho (fun ho => ?_) fun ho => ?_
   ·refine go ?_
    refine SP.lit (k := (kInt .i64)) (xs := [x9.A]) (vs := [.int .i64 x9.A]) (cells := [.int .i64 x9.A]) Tryz.underlying55 inf3 rfl rfl rfl rfl rfl rfl rfl rfl (fun _ ap => ⟨[.int .i64 x9.A], _, rfl, rfl, rfl⟩) rfl rfl rfl (fun v26 => ?_)
    refine SP.freezeS see 0 rfl ?_
    obtain ⟨hb, ho⟩ := must_some ho
    refine SP.append see 0 rfl 0 rfl Tryz.underlying55 inf3 rfl rfl hb rfl rfl rfl rfl rfl (fun v28 => ?_)
    clear hb
    refine go ?_
    exact QE.meet fun a w2 ha hw => ⟨(l19 ++ [x9.A]), v28, ho, ha.sub sb, (St.selP [1] rfl (St.selO [0] rfl rfl hw))⟩
   refine go ?_
   exact QE.meet fun a w2 ha hw => ⟨l19, v20, ho, ha.sub sb, (St.selO [0] rfl rfl hw)⟩
  refine go ?_
  obtain ⟨t12, hc, ho⟩ := bind_some ho
  refine SP.callV see (caps := []) (.bool t12) fn113 rfl rfl rfl rfl (fun w2 hP hs sub ap => op_Goes.ok _  _ hc w2 hP sub ) ?_
  clear hc
  refine go ?_
  refine CP.cb ho (fun ho => ?_) fun ho => ?_
  ·refine go ?_
   refine SP.lit (k := (kInt .i64)) (xs := [IntKind.i64.wrap (a1 + 1)]) (vs := [.int .i64 (IntKind.i64.wrap (a1 + 1))]) (cells := [.int .i64 (IntKind.i64.wrap (a1 + 1))]) Tryz.underlying55 inf3 rfl rfl rfl rfl rfl rfl rfl rfl (fun _ ap => ⟨[.int .i64 (IntKind.i64.wrap (a1 + 1))], _, rfl, rfl, rfl⟩) rfl rfl rfl (fun v13 => ?_)
   refine SP.imp (fun w2 hw => St.addO (slO.nil (kInt .i64) 3) hw) ?_
   refine SP.freezeS see 1 rfl ?_
   obtain ⟨hb, ho⟩ := must_some ho
   refine SP.append see 0 rfl 0 rfl Tryz.underlying55 inf3 rfl rfl hb rfl rfl rfl rfl rfl (fun v16 => ?_)
   clear hb
   refine go ?_
   exact QE.meet fun a w2 ha hw => ⟨(([] : List Int) ++ [IntKind.i64.wrap (a1 + 1)]), v16, ho, ha.sub sb, (St.selP [3] rfl hw)⟩
  refine go ?_
  exact QE.meet fun a w2 ha hw => ⟨[], (.slice none 0 0), ho, ha.sub sb, (St.selP [2] rfl (St.addO (slO.nil (kInt .i64) 3) hw))⟩
 refine SP.bb 16 (fun hq5 => ?_) fun hq5 => ?_
 ·refine go ?_
  exact QE.jb (or_t hq5) fun w2 hw => hw
 refine go ?_
 exact QE.jb (or_f hq5 rfl) fun w2 hw => hw
inductive slices_Equal_uint8_uint8.S where
  | start
  | l1 (x12 : Int)
def slices_Equal_uint8_uint8.F (s1_0 : (List Int)) (s2_1 : (List Int)) : slices_Equal_uint8_uint8.S → Option (slices_Equal_uint8_uint8.S ⊕ Bool)
  | .start => if (s1_0.length : Int) ≠ (s2_1.length : Int) then (some (.inr false)) else (some (.inl (.l1 0)))
  | .l1 x12 => if x12 < (s1_0.length : Int) then ((elt s1_0 x12).bind fun x16 => (elt s2_1 x12).bind fun x20 => if x16 ≠ x20 then (some (.inr false)) else (some (.inl (.l1 (IntKind.i64.wrap (x12 + 1)))))) else (some (.inr true))
def slices_Equal_uint8_uint8.f (s1_0 : (List Int)) (s2_1 : (List Int)) : Option Bool := runF (slices_Equal_uint8_uint8.F s1_0 s2_1) .start
theorem slices_Equal_uint8_uint8.ok (s1_0 : (List Int)) (s2_1 : (List Int)) (v_s1_0 v_s2_1 : Value) (r : Bool) (H : slices_Equal_uint8_uint8.f s1_0 s2_1 = some r) (w : World) (hV : Hp) (sV : Sub hV (hp w)) (h0 : slR (kInt .u8) hV v_s1_0 s1_0) (h1 : slR (kInt .u8) hV v_s2_1 s2_1) :
    Trip Tryz.prog 76 [v_s1_0, v_s2_1].toArray em hV w (fun v => HO.pure (v = .bool r)) := by
 refine Trip.go 26 Tryz.func76 sV (aS h0 (aS h1 (All.nil _))) fun see => ?_
 obtain ⟨n0, hi⟩ := runF_iff.1 H
 obtain ⟨m0, o, hm0, ho, hr⟩ := iter_some hi
 clear hi
 refine go ?_
 refine CP.seq (go ?_)
 refine CP.ci ho (fun ho => ?_) fun ho => ?_
 ·refine go ?_
  obtain rfl := fin ho hr
  exact QE.rt (fun _ h => h)
 refine go ?_
 refine CP.seq (go ?_)
 obtain rfl := Option.some.inj ho
 refine CP.loop (fun cl1 a w2 => ∃ x12 : Int, cl1 ≤ m0 ∧ iter (slices_Equal_uint8_uint8.F s1_0 s2_1) cl1 (.l1 x12) = some r ∧ Env ⟨26, []⟩ [(0, v_s1_0), (1, v_s2_1), (12, .int .i64 (s1_0.length : Int)), (13, .int .i64 x12)] a ∧ St w em hV [slP (kInt .u8) v_s1_0 s1_0, slP (kInt .u8) v_s2_1 s2_1] [] w2) m0 (fun a w2 ha hw => ⟨0, Nat.le_refl _, hr, ha.sub sb, hw⟩) ?_
 clear hr
 rintro cl1 a w2 ⟨x12, hc_l1, hi, ha, hw⟩
 obtain ⟨m13, o, hm_m13, ho, hr⟩ := iter_some hi
 refine CP.app ha hw ?_
 clear ha hw a w2 hi
 refine go ?_
 refine CP.seq ?_
 refine CP.ci ho (fun ho => ?_) fun ho => ?_
 ·refine go ?_
  refine CP.seq (go ?_)
  refine CP.seq ?_
  refine CP.drawA (by kernel_rfl) (fun w2 k h => h.drawn k) ?_
  obtain ⟨x16, hx, ho⟩ := elt_bind ho
  refine DA.ghost (fun w2 h => h.elem see 0 rfl hx.1 hx.2) (fun p14 h_p14 => ?_)
  clear hx
  refine DA.ghost (fun w2 h => h.openE see 0 rfl (fun _ : Unit => [.int .u8 x16]) (fun _ => []) (fun h cs e => ⟨(), e, All.nil _⟩)) (fun _ _ => ?_)
  obtain ⟨x20, hx, ho⟩ := elt_bind ho
  refine DA.ghost (fun w2 h => h.elem see 3 rfl hx.1 hx.2) (fun p18 h_p18 => ?_)
  clear hx
  refine DA.ghost (fun w2 h => h.openE see 0 rfl (fun _ : Unit => [.int .u8 x20]) (fun _ => []) (fun h cs e => ⟨(), e, All.nil _⟩)) (fun _ _ => ?_)
  refine DA.ph 0 8 ?_
  refine DT.tk 0 ?_
  refine DT.tk 1 ?_
  refine DT.tv 2 rfl (Val.indexE h_p14 Tryz.underlying38 sz5 rfl rfl) ?_
  refine DT.tv 3 rfl (Val.loadAt1 see 2 rfl Tryz.underlying5 rfl rfl) ?_
  refine DT.tk 4 ?_
  refine DT.tk 5 ?_
  refine DT.tv 6 rfl (Val.indexE h_p18 Tryz.underlying38 sz5 rfl rfl) ?_
  refine DT.tv 7 rfl (Val.loadAt1 see 0 rfl Tryz.underlying5 rfl rfl) ?_
  refine DT.next (by kernel_rfl) ?_
  refine DA.one 8 rfl (by kernel_rfl) (go ?_)
  refine QE.atA ?_
  refine DA.done (by kernel_rfl) (go ?_)
  refine CP.ci ho (fun ho => ?_) fun ho => ?_
  ·refine go ?_
   obtain rfl := fin ho hr
   exact QE.rt (fun _ h => h)
  refine go ?_
  obtain rfl := Option.some.inj ho
  exact QE.lower m13 (by omega) fun a w2 ha hw => ⟨(IntKind.i64.wrap (x12 + 1)), (by omega), hr, ha.sub sb, (St.selP [4, 5] rfl hw)⟩
 refine go ?_
 obtain rfl := fin ho hr
 exact QE.rt (fun _ h => h)
inductive types_look_place_s1.S where
  | start
  | l1 (t32 : ((List Int) × Int) × (List types_Row)) (t35 : (List Int) × Int) (l58 : List types_Row) (x59 : Int)
def types_look_place_s1.F (k_0_2 : List api_Value) (k_0_4 : List api_Value) (k_0_6 : List api_Method) (k_0_8 : Int) (k_0_9 : List Int) (k_0_11 : List Int) (k_0_13 : Int) (k_0_14 : Bool) (k_0_15 : Int) (k_0_16 : Int) (k_0_17 : Int) (k_0_18 : List api_Instr) (k_0_20 : List Int) (l22 : List types_Row) (a1 : Int) : types_look_place_s1.S → Option (types_look_place_s1.S ⊕ (Int × (List types_Row)))
  | .start => (elt l22 a1).bind fun x23 => if (!x23.Reached) = true then (some (.inr (0, l22))) else ((elt k_0_18 a1).bind fun x30 => (types_look_after_s1.f k_0_2 k_0_4 k_0_6 k_0_8 k_0_9 k_0_11 k_0_13 k_0_14 k_0_15 k_0_16 k_0_17 k_0_18 k_0_20 l22 x30 x23.Kinds).bind fun t32 => if t32.1.2 ≠ 0 then (some (.inr (t32.1.2, t32.2))) else ((flow_Ways.f k_0_18 a1).bind fun t35 => some (.inl (.l1 t32 t35 t32.2 0))))
  | .l1 t32 t35 l58 x59 => if x59 < (t35.1.length : Int) then ((elt t35.1 x59).bind fun x62 => (elt l58 x62).bind fun x63 => (if x63.Reached = true then ((slices_Equal_uint8_uint8.f x63.Kinds t32.1.1).bind fun t68 => some (!t68)) else (some false)).bind fun t69 => if t69 = true then (some (.inr (100, l58))) else (some (.inl (.l1 t32 t35 (l58.set x62.toNat (⟨true, t32.1.1⟩ : types_Row)) (IntKind.i64.wrap (x59 + 1)))))) else (some (.inr (0, l58)))
def types_look_place_s1.f (k_0_2 : List api_Value) (k_0_4 : List api_Value) (k_0_6 : List api_Method) (k_0_8 : Int) (k_0_9 : List Int) (k_0_11 : List Int) (k_0_13 : Int) (k_0_14 : Bool) (k_0_15 : Int) (k_0_16 : Int) (k_0_17 : Int) (k_0_18 : List api_Instr) (k_0_20 : List Int) (l22 : List types_Row) (a1 : Int) : Option (Int × (List types_Row)) := runF (types_look_place_s1.F k_0_2 k_0_4 k_0_6 k_0_8 k_0_9 k_0_11 k_0_13 k_0_14 k_0_15 k_0_16 k_0_17 k_0_18 k_0_20 l22 a1) .start
theorem types_look_place_s1.ok (k_0_2 : List api_Value) (k_0_4 : List api_Value) (k_0_6 : List api_Method) (k_0_8 : Int) (k_0_9 : List Int) (k_0_11 : List Int) (k_0_13 : Int) (k_0_14 : Bool) (k_0_15 k_0_16 k_0_17 : Int) (k_0_18 : List api_Instr) (k_0_20 : List Int) (l22 : List types_Row) (a1 : Int) (v_k_0_2 v_k_0_4 : Value) (v_k_0_6 v_k_0_9 : Value) (v_k_0_11 v_k_0_18 v_k_0_20 : Value)  (r : Int × (List types_Row)) (H : types_look_place_s1.f k_0_2 k_0_4 k_0_6 k_0_8 k_0_9 k_0_11 k_0_13 k_0_14 k_0_15 k_0_16 k_0_17 k_0_18 k_0_20 l22 a1 = some r) (w : World) (hV : Hp) (sV : Sub hV (hp w)) (h0 : slR k_api_Value hV v_k_0_2 k_0_2) (h1 : slR k_api_Value hV v_k_0_4 k_0_4) (h2 : slR k_api_Method hV v_k_0_6 k_0_6) (h3 : slR (kInt .u8) hV v_k_0_9 k_0_9) (h4 : slR (kInt .u8) hV v_k_0_11 k_0_11) (h5 : slR k_api_Instr hV v_k_0_18 k_0_18) (h6 : slR (kInt .u8) hV v_k_0_20 k_0_20) (h7 : (arrP k_arr221 0 tab0).p hV) (b1 : Nat) (hA : Hp) (sA : Sub hA (hp w)) (dA : Dj hV hA) (hI : (arrK k_types_Row b1 [v_k_0_2, v_k_0_4, v_k_0_6, .int .i64 k_0_8, v_k_0_9, v_k_0_11, .int .u8 k_0_13, .bool k_0_14, .int .i64 k_0_15, .int .i64 k_0_16, .int .i64 k_0_17, v_k_0_18, v_k_0_20] 200 l22 [] 97).p hV hA) :
    Trip Tryz.prog 47 [.pointer (some ⟨b1, 0, none⟩), .int .i64 a1].toArray hA hV w (fun v => HO.pand (v = .int .i64 r.1) (HO.seps [arrK k_types_Row b1 [v_k_0_2, v_k_0_4, v_k_0_6, .int .i64 k_0_8, v_k_0_9, v_k_0_11, .int .u8 k_0_13, .bool k_0_14, .int .i64 k_0_15, .int .i64 k_0_16, .int .i64 k_0_17, v_k_0_18, v_k_0_20] 200 r.2 [] 97])) := by
 have see : Sees w hA hV := ⟨sV, dA⟩
 refine Trip.of (P := Tryz.prog) (n := ⟨79, []⟩) Tryz.func47 rfl ⟨rfl, rfl⟩ rfl (St.beginA (os := [arrK k_types_Row b1 [v_k_0_2, v_k_0_4, v_k_0_6, .int .i64 k_0_8, v_k_0_9, v_k_0_11, .int .u8 k_0_13, .bool k_0_14, .int .i64 k_0_15, .int .i64 k_0_16, .int .i64 k_0_17, v_k_0_18, v_k_0_20] 200 l22 [] 97]) sA (aS h0 (aS h1 (aS h2 (aS h3 (aS h4 (aS h5 (aS h6 (All.cons (x := arrP k_arr221 0 tab0) h7 (All.nil _))))))))) ⟨hA, em, Dj.em_right _, Sub.refl _, Sub.em _, hI, trivial⟩) ?_
 obtain ⟨n0, hi⟩ := runF_iff.1 H
 obtain ⟨m0, o, hm0, ho, hr⟩ := iter_some hi
 clear hi
 refine go ?_
 obtain ⟨x23, hx_x23, ho⟩ := elt_bind ho
 refine SP.val (Val.indexK see 0 rfl Tryz.underlying95 sz73 hx_x23.1 hx_x23.2 rfl rfl) rfl rfl rfl ?_
 refine SP.loadKO (j := a1) see 0 (fun (v24 : Value) => [.bool x23.Reached, v24]) (fun (v24 : Value) => [slP (kInt .u8) v24 x23.Kinds]) rfl hx_x23.2 (fun a cs ⟨v24, e, p0⟩ => ⟨v24, e, All.cons p0 (All.nil _)⟩) Tryz.underlying73 rfl sz73 rfl rfl rfl (fun z_ => ?_)
 rename Value => v24
 refine SP.alloc (cs := [.bool false, (.slice none 0 0)]) inf73 rfl rfl (fun b26 => ?_)
 refine SP.have (fun w2 hw => slR.shape (St.pers 0 rfl see.sub see.dj hw)) (fun hs_v24 => ?_)
 refine SP.store (v := .agg #[.bool x23.Reached, v24]) (vs := [.bool x23.Reached, v24]) 0 (by rfl) sz73 (by rfl) (by rfl) (by rfl) (by rfl) (one_cons rfl (one_cons hs_v24 (rfl))) (by rfl) (go ?_)
 refine CP.seq (go ?_)
 refine CP.cb ho (fun ho => ?_) fun ho => ?_
 ·refine go ?_
  obtain rfl := fin ho hr
  exact QE.rt (fun _ h => St.selO [1] rfl rfl h)
 refine go ?_
 refine CP.seq ?_
 refine CP.drawA (by kernel_rfl) (fun w2 k h => h.drawn k) ?_
 obtain ⟨x30, hx, ho⟩ := elt_bind ho
 refine DA.ghost (fun w2 h => h.elem see 6 rfl hx.1 hx.2) (fun p28 h_p28 => ?_)
 clear hx
 refine DA.ghost (fun w2 h => h.openE see 0 rfl (fun _ : Unit => [.int .u8 x30.Op, .int .i64 x30.A, .int .i64 x30.B]) (fun _ => []) (fun h cs e => ⟨(), e, All.nil _⟩)) (fun _ _ => ?_)
 refine DA.ph 0 11 ?_
 refine DT.tk 0 ?_
 refine DT.tk 1 ?_
 refine DT.tk 2 ?_
 refine DT.tk 3 ?_
 refine DT.tk 4 ?_
 refine DT.tv 5 rfl (Val.loadKPre1 see 1 rfl Tryz.underlying39 rfl rfl rfl) ?_
 refine DT.tk 6 ?_
 refine DT.tv 7 rfl (Val.indexE h_p28 Tryz.underlying39 sz71 rfl rfl) ?_
 refine DT.tv 8 rfl (Val.loadAtA see 0 rfl Tryz.underlying71 rfl sz71 rfl) ?_
 refine DT.tk 9 ?_
 refine DT.tk 10 ?_
 refine DT.next (by kernel_rfl) ?_
 refine DA.one 11 rfl (by kernel_rfl) ?_
 refine SP.imp (fun w2 hw => St.selO [1, 0] rfl rfl hw) ?_
 obtain ⟨t32, hc, ho⟩ := bind_some ho
 refine SP.callA see (caps := []) _ fn74 rfl rfl rfl rfl (fun w2 hP h1 sub s1 d1 ap hI => types_look_after_s1.ok _ _ _ _ _ _ _ _ _ _ _ _ _ _ _ _ _ _ _ _ _ _ _ _ _ hc w2 hP sub (ap.get 3 rfl) (ap.get 4 rfl) (ap.get 5 rfl) (ap.get 6 rfl) (ap.get 7 rfl) (ap.get 8 rfl) (ap.get 9 rfl) (ap.get 2 rfl) _ h1 s1 d1 hI) (SP.k1 fun v33 => ?_)
 clear hc
 refine go ?_
 refine QE.atA ?_
 refine DA.one 12 rfl (by kernel_rfl) (go ?_)
 refine QE.atA ?_
 refine DA.ph 13 16 ?_
 refine DT.tk 13 ?_
 refine DT.tk 14 ?_
 refine DT.tk 15 ?_
 refine DT.next (by kernel_rfl) ?_
 refine DA.one 16 rfl (by kernel_rfl) (go ?_)
 refine QE.atA ?_
 refine DA.done (by kernel_rfl) (go ?_)
 refine CP.seq (go ?_)
 refine CP.ci ho (fun ho => ?_) fun ho => ?_
 ·refine go ?_
  obtain rfl := fin ho hr
  exact QE.rt (fun _ h => St.selO [1] rfl rfl h)
 refine go ?_
 refine SP.val (Val.loadKPre1 see 1 rfl Tryz.underlying39 rfl rfl rfl) rfl rfl rfl (go ?_)
 obtain ⟨t35, hc, ho⟩ := bind_some ho
 refine SP.callK see (caps := []) _ fn75 rfl rfl rfl rfl (fun w2 hP hs sub ap => flow_Ways.ok _ _ _ _ hc w2 hP sub (ap.get 8 rfl) (ap.get 10 rfl)) (SP.k1 fun v36 => ?_)
 clear hc
 refine go ?_
 refine CP.seq (go ?_)
 refine SP.val (Val.lenW (fun w2 hw => slO.whole (St.own 0 rfl see.sub see.dj hw)) Tryz.underlying55 rfl) rfl rfl rfl (go ?_)
 refine CP.freezeS see 1 rfl ?_
 obtain rfl := Option.some.inj ho
 refine CP.loop (fun cl1 a w2 => ∃ l58 : List types_Row, ∃ x59 : Int, cl1 ≤ m0 ∧ iter (types_look_place_s1.F k_0_2 k_0_4 k_0_6 k_0_8 k_0_9 k_0_11 k_0_13 k_0_14 k_0_15 k_0_16 k_0_17 k_0_18 k_0_20 l22 a1) cl1 (.l1 t32 t35 l58 x59) = some r ∧ Env ⟨79, []⟩ [(0, .pointer (some ⟨b1, 0, none⟩)), (6, v33), (50, v36), (51, .int .i64 (t35.1.length : Int)), (52, .int .i64 x59)] a ∧ St w hA hV [slP (kInt .u8) v33 t32.1.1, slP k_api_Value v_k_0_2 k_0_2, slP k_api_Value v_k_0_4 k_0_4, slP k_api_Method v_k_0_6 k_0_6, slP (kInt .u8) v_k_0_9 k_0_9, slP (kInt .u8) v_k_0_11 k_0_11, slP k_api_Instr v_k_0_18 k_0_18, slP (kInt .u8) v_k_0_20 k_0_20, arrP k_arr221 0 tab0] [slO (kInt .i64) 3 v36 t35.1, arrK k_types_Row b1 [v_k_0_2, v_k_0_4, v_k_0_6, .int .i64 k_0_8, v_k_0_9, v_k_0_11, .int .u8 k_0_13, .bool k_0_14, .int .i64 k_0_15, .int .i64 k_0_16, .int .i64 k_0_17, v_k_0_18, v_k_0_20] 200 l58 [] 97] w2) m0 (fun a w2 ha hw => ⟨t32.2, 0, Nat.le_refl _, hr, ha.sub sb, (St.selP [0, 4, 5, 6, 7, 8, 9, 10, 11] rfl (St.selO [0, 1] rfl rfl hw))⟩) ?_
 clear hr
 rintro cl1 a w2 ⟨l58, x59, hc_l1, hi, ha, hw⟩
 obtain ⟨m60, o, hm_m60, ho, hr⟩ := iter_some hi
 refine CP.app ha hw ?_
 clear ha hw a w2 hi
 refine go ?_
 refine CP.seq ?_
 refine CP.ci ho (fun ho => ?_) fun ho => ?_
 ·refine go ?_
  refine CP.seq (go ?_)
  obtain ⟨x62, hx_x62, ho⟩ := elt_bind ho
  refine SP.indexW (fun w2 hw => slO.whole (St.own 0 rfl see.sub see.dj hw)) Tryz.underlying55 sz3 hx_x62.1 hx_x62.2 rfl rfl rfl rfl (fun p61 h_p61 => ?_)
  refine SP.val (Val.loadW1 (off := 0) (k := (kInt .i64)) (fun w2 hw => slO.whole (St.own 0 rfl see.sub see.dj hw)) hx_x62.2 h_p61 (fun _ _ e => by subst e; rfl) Tryz.underlying3 rfl rfl) rfl rfl rfl (go ?_)
  obtain ⟨x63, hx_x63, ho⟩ := elt_bind ho
  refine SP.val (Val.indexK see 1 rfl Tryz.underlying95 sz73 hx_x63.1 hx_x63.2 rfl rfl) rfl rfl rfl (go ?_)
  refine CP.seq ?_
  refine CP.seq ?_
  refine CP.region ?_
  refine SP.val (Val.move rfl) rfl rfl rfl ?_
  refine SP.val (Val.nilCheck rfl) rfl rfl rfl ?_
  refine SP.val (Val.fieldX Tryz.underlying73 rfl sz4 rfl) rfl rfl rfl ?_
  refine SP.val (Val.loadK1 (j := x62) see 1 0 rfl hx_x63.2 (fun _ _ ⟨v0_, e, p0_⟩ => by subst e; rfl) Tryz.underlying4 rfl rfl) rfl rfl rfl (go ?_)
  obtain ⟨t69, hg_t69, ho⟩ := bind_some ho
  refine SP.jn 8 [0, 6, 50, 51, 52, 12] 73 (.bool t69) ?_ ?_
  ·clear hg_t69
   refine go ?_
   refine CP.cb ho (fun ho => ?_) fun ho => ?_
   ·refine go ?_
    obtain rfl := fin ho hr
    exact QE.rt (fun _ h => St.selO [1] rfl rfl h)
   refine go ?_
   refine SP.have (fun w2 hw => slR.shape (St.pers 0 rfl see.sub see.dj hw)) (fun hs_v33 => ?_)
   refine SP.val (Val.buildC (us := [(0, .bool true), (1, v33)]) (ucs := [(0, [.bool true]), (1, [v33])]) (cs := [.bool true, v33]) bt73 rfl rfl ⟨rfl, rfl, ⟨rfl, one_cells hs_v33, trivial⟩⟩ (by rfl)) rfl rfl rfl (go ?_)
   refine SP.have (fun w2 hw => slR.shape (St.pers 0 rfl see.sub see.dj hw)) (fun hs_v33 => ?_)
   refine SP.storeK (j := x62) (z0 := (⟨true, t32.1.1⟩ : types_Row)) (vs := [.bool true, v33]) see 1 0 rfl hx_x63.2 rfl (one_cons rfl (one_cons hs_v33 (rfl))) sz73 rfl (fun a cs ap r => by obtain ⟨_, e, _⟩ := r; subst e; exact ⟨v33, rfl, (ap.get 0 rfl)⟩) rfl rfl rfl (go ?_)
   obtain rfl := Option.some.inj ho
   exact QE.lower m60 (by omega) fun a w2 ha hw => ⟨(l58.set x62.toNat (⟨true, t32.1.1⟩ : types_Row)), (IntKind.i64.wrap (x59 + 1)), (by omega), hr, ha.sub sb, hw⟩
  refine SP.cb 65 hg_t69 (fun hq65 ho => ?_) fun hq65 ho => ?_
  ·refine SP.val (Val.move rfl) rfl rfl rfl ?_
   refine SP.val (Val.nilCheck rfl) rfl rfl rfl ?_
   refine SP.val (Val.fieldX Tryz.underlying73 rfl sz38 rfl) rfl rfl rfl ?_
   refine SP.loadKS (j := x62) see 1 1 rfl hx_x63.2 (fun _ _ ⟨v0_, e, p0_⟩ => ⟨v0_, by subst e; rfl, p0_⟩) Tryz.underlying38 rfl rfl rfl (fun v66 => go ?_)
   obtain ⟨t68, hc, ho⟩ := bind_some ho
   refine SP.callV see (caps := []) (.bool t68) fn76 rfl rfl rfl rfl (fun w2 hP hs sub ap => slices_Equal_uint8_uint8.ok _ _ _ _ _ hc w2 hP sub (ap.get 0 rfl) (ap.get 1 rfl)) ?_
   clear hc
   refine go ?_
   obtain rfl := Option.some.inj ho
   exact QE.jn fun w2 hw => (St.selP [1, 2, 3, 4, 5, 6, 7, 8, 9] rfl hw)
  refine go ?_
  obtain rfl := Option.some.inj ho
  exact QE.jn fun w2 hw => hw
 refine go ?_
 obtain rfl := fin ho hr
 exact QE.rt (fun _ h => St.selO [1] rfl rfl h)
def slices_Clone_types_Row_types_Row.f (s_0 : (List types_Row)) : Option (List types_Row) :=
  nilOr s_0 (some []) (if (([] : List types_Row).length + s_0.length) * 32 ≤ 140737488355328 then (some (([] : List types_Row) ++ s_0)) else none)
theorem slices_Clone_types_Row_types_Row.ok (s_0 : (List types_Row)) (v_s_0 : Value) (r : (List types_Row)) (H : slices_Clone_types_Row_types_Row.f s_0 = some r) (w : World) (hV : Hp) (sV : Sub hV (hp w)) (h0 : slR k_types_Row hV v_s_0 s_0) :
    Trip Tryz.prog 48 [v_s_0].toArray em hV w (fun v => HO.ex fun u0 : Value => HO.pand (v = u0) (HO.seps [slO k_types_Row 73 u0 r])) := by
 refine Trip.go 8 Tryz.func48 sV (aS h0 (All.nil _)) fun see => ?_
 have ho := H
 refine go ?_
 refine CP.seq (go ?_)
 refine SP.val (Val.eqlNP see 0 rfl Tryz.underlying63 rfl rfl) rfl rfl rfl (go ?_)
 refine CP.have (fun w2 hw => slR.isNil (v := v_s_0) (St.pers 0 rfl see.sub see.dj hw)) (fun hnil => ?_)
 rcases Bool.eq_false_or_eq_true (nilB v_s_0) with hc | hc
 ·replace ho := nilOr_t ho (hnil hc)
  refine CP.condT rfl hc (go ?_)
  obtain rfl := Option.some.inj ho
  exact QE.rt (fun _ h => St.selO [0] rfl rfl (St.addO (slO.nil k_types_Row 73) h))
 replace ho := nilOr_f ho
 refine CP.condF rfl hc (go ?_)
 refine SP.lit0 (k := k_types_Row) Tryz.underlying63 inf73 rfl rfl (fun v3 => go ?_)
 obtain ⟨hb, ho⟩ := must_some ho
 refine SP.append see 0 rfl 0 rfl Tryz.underlying63 inf73 rfl rfl hb rfl rfl rfl rfl rfl (fun v5 => ?_)
 clear hb
 refine go ?_
 obtain rfl := Option.some.inj ho
 exact QE.rt (fun _ h => St.selO [0] rfl rfl h)
inductive types_Rows.S where
  | start
  | l1 (x11 : api_Method) (t1828 : (List Int)) (l2826 : List types_Row) (x2827 : Int)
  | l2 (t2833 : (List types_Row)) (l2848 : List types_Row) (x2850 : Int)
def types_Rows.F (m_0 : api_Module) (k_1 : Int) : types_Rows.S → Option (types_Rows.S ⊕ ((List types_Row) × Int))
  | .start => if ((decide (k_1 < 0)) || (decide (k_1 ≥ (m_0.Methods.length : Int)))) = true then (some (.inr ([], 2))) else ((elt m_0.Methods k_1).bind fun x11 => (flow_Check.f x11.Code).bind fun t20 => if t20 ≠ 0 then (some (.inr ([], t20))) else ((slices_Concat_uint8_uint8.f [x11.Args, x11.Locals]).bind fun t1828 => (slices_ContainsFunc_api_Instr_api_Instr_s2.f x11.Code m_0.Globals m_0.Pool m_0.Methods m_0.Migrate x11.Args x11.Locals x11.Result x11.Reads x11.Fuel x11.Stack x11.Heap x11.Code t1828).bind fun t2747 => if t2747 = true then (some (.inr ([], 100))) else ((elt (List.replicate 200 types_Row.zero : List types_Row) 0).bind fun x2749 => some (.inl (.l1 x11 t1828 ((List.replicate 200 types_Row.zero : List types_Row).set (0 : Int).toNat ({ x2749 with Reached := true } : types_Row)) 0)))))
  | .l1 x11 t1828 l2826 x2827 => if x2827 < (x11.Code.length : Int) then ((types_look_place_s1.f m_0.Globals m_0.Pool m_0.Methods m_0.Migrate x11.Args x11.Locals x11.Result x11.Reads x11.Fuel x11.Stack x11.Heap x11.Code t1828 l2826 x2827).bind fun t2829 => if t2829.1 ≠ 0 then (some (.inr ([], t2829.1))) else (some (.inl (.l1 x11 t1828 t2829.2 (IntKind.i64.wrap (x2827 + 1)))))) else (if (0 : Int) ≤ (x11.Code.length : Int) ∧ (x11.Code.length : Int) ≤ (200 : Nat) then ((slices_Clone_types_Row_types_Row.f (l2826.take ((x11.Code.length : Int) : Int).toNat)).bind fun t2833 => some (.inl (.l2 t2833 t2833 0))) else none)
  | .l2 t2833 l2848 x2850 => if x2850 < (t2833.length : Int) then ((elt l2848 x2850).bind fun x2853 => (slices_Clone_uint8_uint8.f x2853.Kinds).bind fun t2857 => (elt l2848 x2850).bind fun x2861 => some (.inl (.l2 t2833 (l2848.set x2850.toNat ({ x2861 with Kinds := t2857 } : types_Row)) (IntKind.i64.wrap (x2850 + 1))))) else (some (.inr (l2848, 0)))
def types_Rows.f (m_0 : api_Module) (k_1 : Int) : Option ((List types_Row) × Int) := runF (types_Rows.F m_0 k_1) .start
theorem types_Rows.ok (m_0 : api_Module) (k_1 : Int) (v_m_0_Globals v_m_0_Pool v_m_0_Methods : Value)  (r : (List types_Row) × Int) (H : types_Rows.f m_0 k_1 = some r) (w : World) (hV : Hp) (sV : Sub hV (hp w)) (h0 : slR k_api_Value hV v_m_0_Globals m_0.Globals) (h1 : slR k_api_Value hV v_m_0_Pool m_0.Pool) (h2 : slR k_api_Method hV v_m_0_Methods m_0.Methods) (h3 : (arrP k_arr221 0 tab0).p hV) :
    Trip Tryz.prog 22 [.agg #[v_m_0_Globals, v_m_0_Pool, v_m_0_Methods, .int .i64 m_0.Migrate], .int .i64 k_1].toArray em hV w (fun v => HO.ex fun u0 : Value => HO.pand (v = .tuple #[u0, .int .i64 r.2]) (HO.seps [slO k_types_Row 73 u0 r.1])) := by
 refine Trip.go 90 Tryz.func22 sV (aS h0 (aS h1 (aS h2 (All.cons (x := arrP k_arr221 0 tab0) h3 (All.nil _))))) fun see => ?_
 obtain ⟨n0, hi⟩ := runF_iff.1 H
 obtain ⟨m0, o, hm0, ho, hr⟩ := iter_some hi
 clear hi
 refine go ?_
 refine SP.box rfl rfl rfl rfl fun b4 => go ?_
 refine CP.seq (go ?_)
 refine SP.jn 6 [1, 2] 21 (.bool ((decide (k_1 < 0)) || (decide (k_1 ≥ (m_0.Methods.length : Int))))) ?_ ?_
 ·refine go ?_
  refine CP.cb ho (fun ho => ?_) fun ho => ?_
  ·refine go ?_
   obtain rfl := fin ho hr
   exact QE.rt (fun _ h => St.selO [0] rfl rfl (St.addO (slO.nil k_types_Row 73) h))
  refine go ?_
  obtain ⟨x11, hx, ho⟩ := elt_bind ho
  refine SP.indexP see 2 rfl Tryz.underlying23 sz41 hx.1 hx.2 rfl rfl rfl rfl (fun p9 => ?_)
  clear hx
  refine k_api_Method.load see 0 rfl Tryz.underlying41 rfl sz41 rfl rfl rfl (fun v12 v14 v16 => ?_)
  refine SP.alloc (cs := [(.slice none 0 0), (.slice none 0 0), .int .u8 0, .bool false, .int .i64 0, .int .i64 0, .int .i64 0, (.slice none 0 0)]) inf41 rfl rfl (fun b18 => ?_)
  refine SP.have (fun w2 hw => slR.shape (St.pers 0 rfl see.sub see.dj hw)) (fun hs_v12 => ?_)
  refine SP.have (fun w2 hw => slR.shape (St.pers 1 rfl see.sub see.dj hw)) (fun hs_v14 => ?_)
  refine SP.have (fun w2 hw => slR.shape (St.pers 2 rfl see.sub see.dj hw)) (fun hs_v16 => ?_)
  refine SP.store (v := .agg #[v12, v14, .int .u8 x11.Result, .bool x11.Reads, .int .i64 x11.Fuel, .int .i64 x11.Stack, .int .i64 x11.Heap, v16]) (vs := [v12, v14, .int .u8 x11.Result, .bool x11.Reads, .int .i64 x11.Fuel, .int .i64 x11.Stack, .int .i64 x11.Heap, v16]) 0 (by rfl) sz41 (by rfl) (by rfl) (by rfl) (by rfl) (one_cons hs_v12 (one_cons hs_v14 (one_cons rfl (one_cons rfl (one_cons rfl (one_cons rfl (one_cons rfl (one_cons hs_v16 (rfl))))))))) (by rfl) (go ?_)
  refine CP.seq (go ?_)
  obtain ⟨t20, hc, ho⟩ := bind_some ho
  refine SP.callV see (caps := []) (.int .i64 t20) fn42 rfl rfl rfl rfl (fun w2 hP hs sub ap => flow_Check.ok _ _ _ hc w2 hP sub (ap.get 2 rfl) (ap.get 7 rfl)) ?_
  clear hc
  refine go ?_
  refine CP.ci ho (fun ho => ?_) fun ho => ?_
  ·refine go ?_
   obtain rfl := fin ho hr
   exact QE.rt (fun _ h => St.selO [0] rfl rfl (St.addO (slO.nil k_types_Row 73) h))
  refine go ?_
  refine CP.seq ?_
  refine CP.drawA (by kernel_rfl) (fun w2 k h => h.drawn k) ?_
  refine DA.ph 0 11 ?_
  refine DT.tv 0 rfl (Val.loadA 1 rfl Tryz.underlying25 rfl sz25 rfl rfl rfl) ?_
  refine DT.tv 1 rfl (Val.loadA 0 rfl Tryz.underlying41 rfl sz41 rfl rfl rfl) ?_
  refine DT.tk 2 ?_
  refine DT.tk 3 ?_
  refine DT.tk 4 ?_
  refine DT.tk 5 ?_
  obtain ⟨t1828, hc_t1828, ho⟩ := bind_some ho
  refine DT.list (l2 := #[true, true, true, true, true, true, false, false, false, false, false, false]) (by kernel_rfl) ?_
  refine DT.cut (ι := Value × Value × Nat × Nat) (fun z => [(6, .pointer (some ⟨b18, 0, none⟩)), (8, .pointer (some ⟨z.2.2.2, 0, none⟩)), (42, .pointer (some ⟨z.2.2.1, 0, none⟩))]) (fun z w2 => St w em hV [slP (kInt .u8) v12 x11.Args, slP (kInt .u8) v14 x11.Locals, slP k_api_Instr v16 x11.Code, elP k_api_Method p9 x11, slP k_api_Value v_m_0_Globals m_0.Globals, slP k_api_Value v_m_0_Pool m_0.Pool, slP k_api_Method v_m_0_Methods m_0.Methods, arrP k_arr221 0 tab0] [boxO z.2.2.2 [.pointer none] 93, arrK k_types_Row z.2.2.1 [v_m_0_Globals, v_m_0_Pool, v_m_0_Methods, .int .i64 m_0.Migrate, v12, v14, .int .u8 x11.Result, .bool x11.Reads, .int .i64 x11.Fuel, .int .i64 x11.Stack, .int .i64 x11.Heap, v16, z.2.1] 200 (List.replicate 200 types_Row.zero : List types_Row) [] 97, slO (kInt .u8) 5 z.2.1 t1828, slO (kSl (kInt .u8)) 38 z.1 [x11.Args, x11.Locals], boxO b18 [v12, v14, .int .u8 x11.Result, .bool x11.Reads, .int .i64 x11.Fuel, .int .i64 x11.Stack, .int .i64 x11.Heap, v16] 41, boxO b4 [v_m_0_Globals, v_m_0_Pool, v_m_0_Methods, .int .i64 m_0.Migrate] 25] w2) 1 #[true, true, true, true, true, true, true, true, true, true, true, false] (fun z => ?_) (fun J2746 => ?_)
  ·obtain ⟨v1430, v1630, b2030, b2230⟩ := z
   refine DT.next (by kernel_rfl) ?_
   refine DA.one 11 rfl (by kernel_rfl) ?_
   refine SP.store (v := .pointer (some ⟨b2030, 0, none⟩)) (vs := [.pointer (some ⟨b2030, 0, none⟩)]) 0 (by rfl) sz93 (by rfl) (by rfl) (by rfl) (by rfl) (by rfl) (by rfl) (go ?_)
   refine QE.atA ?_
   refine DA.done (by kernel_rfl) (go ?_)
   refine CP.seq (go ?_)
   refine SP.val (Val.makeFunc (us := []) (vs := [.pointer (some ⟨b2230, 0, none⟩)]) rfl rfl) rfl rfl rfl ?_
   obtain ⟨t2747, hc, ho⟩ := bind_some ho
   refine SP.callVO see (caps := []) (.bool t2747) fn44 rfl rfl rfl rfl (fun w2 hs => slices_ContainsFunc_api_Instr_api_Instr_s2.ok _ _ _ _ _ _ _ _ _ _ _ _ _ _ _ _ _ _ _ _ _ _ _ _ _ hc w2 (hp w2) (Sub.refl _) ((St.pers 2 rfl see.sub see.dj hs)) ((St.pers 4 rfl see.sub see.dj hs)) ((St.pers 5 rfl see.sub see.dj hs)) ((St.pers 6 rfl see.sub see.dj hs)) ((St.pers 0 rfl see.sub see.dj hs)) ((St.pers 1 rfl see.sub see.dj hs)) ((St.pers 2 rfl see.sub see.dj hs)) (slO.read (St.own 2 rfl see.sub see.dj hs) (Sub.refl _) (Sub.refl _)) (arrK.preP (St.own 1 rfl see.sub see.dj hs)) (St.own 0 rfl see.sub see.dj hs)) ?_
   clear hc
   refine go ?_
   refine CP.cb ho (fun ho => ?_) fun ho => ?_
   ·refine go ?_
    obtain rfl := fin ho hr
    exact QE.rt (fun _ h => St.selO [0] rfl rfl (St.addO (slO.nil k_types_Row 73) h))
   refine go ?_
   obtain ⟨x2749, hx_x2749, ho⟩ := elt_bind ho
   refine SP.val (Val.indexK see 1 rfl Tryz.underlying95 sz73 hx_x2749.1 hx_x2749.2 rfl rfl) rfl rfl rfl ?_
   refine SP.val (Val.fieldX Tryz.underlying73 rfl sz4 rfl) rfl rfl rfl ?_
   refine SP.storeK (j := 0) (z0 := ({ x2749 with Reached := true } : types_Row)) (vs := [.bool true]) see 1 0 rfl hx_x2749.2 rfl (by rfl) sz4 rfl (fun a cs ap r => by obtain ⟨v0_, e, p0_⟩ := r; subst e; exact ⟨v0_, rfl, p0_⟩) rfl rfl rfl (go ?_)
   refine CP.seq (go ?_)
   refine CP.freezeS see 2 rfl ?_
   obtain rfl := Option.some.inj ho
   refine CP.loop (fun cl1 a w2 => ∃ l2826 : List types_Row, ∃ x2827 : Int, cl1 ≤ m0 ∧ iter (types_Rows.F m_0 k_1) cl1 (.l1 x11 t1828 l2826 x2827) = some r ∧ Env ⟨90, []⟩ [(6, .pointer (some ⟨b18, 0, none⟩)), (8, .pointer (some ⟨b2230, 0, none⟩)), (54, .int .i64 (x11.Code.length : Int)), (55, .int .i64 x2827)] a ∧ St w em hV [slP (kInt .u8) v1630 t1828, slP (kInt .u8) v12 x11.Args, slP (kInt .u8) v14 x11.Locals, slP k_api_Instr v16 x11.Code, slP k_api_Value v_m_0_Globals m_0.Globals, slP k_api_Value v_m_0_Pool m_0.Pool, slP k_api_Method v_m_0_Methods m_0.Methods, arrP k_arr221 0 tab0] [boxO b2230 [.pointer (some ⟨b2030, 0, none⟩)] 93, arrK k_types_Row b2030 [v_m_0_Globals, v_m_0_Pool, v_m_0_Methods, .int .i64 m_0.Migrate, v12, v14, .int .u8 x11.Result, .bool x11.Reads, .int .i64 x11.Fuel, .int .i64 x11.Stack, .int .i64 x11.Heap, v16, v1630] 200 l2826 [] 97, boxO b18 [v12, v14, .int .u8 x11.Result, .bool x11.Reads, .int .i64 x11.Fuel, .int .i64 x11.Stack, .int .i64 x11.Heap, v16] 41] w2) m0 (fun a w2 ha hw => ⟨((List.replicate 200 types_Row.zero : List types_Row).set (0 : Int).toNat ({ x2749 with Reached := true } : types_Row)), 0, Nat.le_refl _, hr, ha.sub sb, (St.selP [0, 1, 2, 3, 5, 6, 7, 8] rfl (St.selO [0, 1, 3] rfl rfl hw))⟩) ?_
   clear hr
   rintro cl1 a w2 ⟨l2826, x2827, hc_l1, hi, ha, hw⟩
   obtain ⟨m2828, o, hm_m2828, ho, hr⟩ := iter_some hi
   refine CP.app ha hw ?_
   clear ha hw a w2 hi
   refine go ?_
   refine CP.seq ?_
   refine CP.ci ho (fun ho => ?_) fun ho => ?_
   ·refine go ?_
    refine CP.seq (go ?_)
    refine SP.imp (fun w2 hw => St.selO [1, 0, 2] rfl rfl hw) ?_
    obtain ⟨t2829, hc, ho⟩ := bind_some ho
    refine SP.callA see (caps := []) _ fn47 rfl rfl rfl rfl (fun w2 hP h1 sub s1 d1 ap hI => types_look_place_s1.ok _ _ _ _ _ _ _ _ _ _ _ _ _ _ _ _ _ _ _ _ _ _ _ hc w2 hP sub (ap.get 4 rfl) (ap.get 5 rfl) (ap.get 6 rfl) (ap.get 1 rfl) (ap.get 2 rfl) (ap.get 3 rfl) (ap.get 0 rfl) (ap.get 7 rfl) _ h1 s1 d1 hI) (SP.k0 ?_)
    clear hc
    refine go ?_
    refine CP.ci ho (fun ho => ?_) fun ho => ?_
    ·refine go ?_
     obtain rfl := fin ho hr
     exact QE.rt (fun _ h => St.selO [0] rfl rfl (St.addO (slO.nil k_types_Row 73) h))
    refine go ?_
    obtain rfl := Option.some.inj ho
    exact QE.lower m2828 (by omega) fun a w2 ha hw => ⟨t2829.2, (IntKind.i64.wrap (x2827 + 1)), (by omega), hr, ha.sub sb, (St.selO [1, 0, 2] rfl rfl hw)⟩
   refine go ?_
   refine CP.seq ?_
   refine CP.drawA (by kernel_rfl) (fun w2 k h => h.drawn k) ?_
   refine DA.ph 0 6 ?_
   refine DT.tk 0 ?_
   refine DT.tk 1 ?_
   refine DT.tk 2 ?_
   refine DT.tk 3 ?_
   refine DT.tk 4 ?_
   refine DT.tk 5 ?_
   refine DT.next (by kernel_rfl) ?_
   refine DA.one 6 rfl (by kernel_rfl) ?_
   obtain ⟨hz, ho⟩ := must_some ho
   refine SP.sliceK see 1 rfl Tryz.underlying95 sz73 rfl rfl rfl hz rfl rfl (fun v2831 => ?_)
   clear hz
   refine go ?_
   refine QE.atA ?_
   refine DA.one 7 rfl (by kernel_rfl) ?_
   obtain ⟨t2833, hc, ho⟩ := bind_some ho
   refine SP.callK see (caps := []) _ fn48 rfl rfl rfl rfl (fun w2 hP hs sub ap => slices_Clone_types_Row_types_Row.ok _ _ _ hc w2 hP sub (ap.get 0 rfl)) (SP.k1 fun v2834 => ?_)
   clear hc
   refine go ?_
   refine QE.atA ?_
   refine DA.one 8 rfl (by kernel_rfl) (go ?_)
   refine QE.atA ?_
   refine DA.done (by kernel_rfl) (go ?_)
   refine CP.seq (go ?_)
   refine SP.val (Val.lenW (fun w2 hw => slO.whole (St.own 0 rfl see.sub see.dj hw)) Tryz.underlying63 rfl) rfl rfl rfl (go ?_)
   obtain rfl := Option.some.inj ho
   refine CP.loop (fun cl2 a w2 => ∃ l2848 : List types_Row, ∃ x2850 : Int, ∃ v2849 : Value, cl2 ≤ m2828 ∧ iter (types_Rows.F m_0 k_1) cl2 (.l2 t2833 l2848 x2850) = some r ∧ Env ⟨90, []⟩ [(11, v2849), (74, .int .i64 (t2833.length : Int)), (75, .int .i64 x2850)] a ∧ St w em hV [arrP k_arr221 0 tab0] [slO k_types_Row 73 v2849 l2848] w2) m2828 (fun a w2 ha hw => ⟨t2833, 0, v2834, Nat.le_refl _, hr, ha.sub sb, (St.selP [8] rfl (St.selO [0] rfl rfl hw))⟩) ?_
   clear hr
   rintro cl2 a w2 ⟨l2848, x2850, v2849, hc_l2, hi, ha, hw⟩
   obtain ⟨m2851, o, hm_m2851, ho, hr⟩ := iter_some hi
   refine CP.app ha hw ?_
   clear ha hw a w2 hi
   refine go ?_
   refine CP.seq ?_
   refine CP.ci ho (fun ho => ?_) fun ho => ?_
   ·refine go ?_
    refine CP.seq (go ?_)
    obtain ⟨x2853, hx_x2853, ho⟩ := elt_bind ho
    refine SP.indexW (fun w2 hw => slO.whole (St.own 0 rfl see.sub see.dj hw)) Tryz.underlying63 sz73 hx_x2853.1 hx_x2853.2 rfl rfl rfl rfl (fun p2852 h_p2852 => ?_)
    refine SP.fieldO h_p2852 Tryz.underlying73 rfl sz38 rfl rfl rfl (fun p2854 h_p2854 => ?_)
    refine SP.loadOS (j := x2850) see 0 1 rfl hx_x2853.2 h_p2854 (fun _ _ ⟨v0_, e, p0_⟩ => ⟨v0_, by subst e; rfl, p0_⟩) Tryz.underlying38 rfl rfl rfl (fun v2855 => ?_)
    obtain ⟨t2857, hc, ho⟩ := bind_some ho
    refine SP.callK see (caps := []) _ fn49 rfl rfl rfl rfl (fun w2 hP hs sub ap => slices_Clone_uint8_uint8.ok _ _ _ hc w2 hP sub (ap.get 0 rfl)) (SP.k1 fun v2858 => ?_)
    clear hc
    obtain ⟨x2861, hx_x2861, ho⟩ := elt_bind ho
    refine SP.indexW (fun w2 hw => slO.whole (St.own 1 rfl see.sub see.dj hw)) Tryz.underlying63 sz73 hx_x2861.1 hx_x2861.2 rfl rfl rfl rfl (fun p2860 h_p2860 => ?_)
    refine SP.fieldO h_p2860 Tryz.underlying73 rfl sz38 rfl rfl rfl (fun p2862 h_p2862 => ?_)
    refine SP.freezeS see 0 rfl ?_
    refine SP.have (fun w2 hw => slR.shape (St.pers 0 rfl see.sub see.dj hw)) (fun hs_v2858 => ?_)
    refine SP.storeO (z0 := ({ x2861 with Kinds := t2857 } : types_Row)) (off := 1) (vs := [v2858]) see 0 rfl hx_x2861.2 h_p2862 (one_cells hs_v2858) (one_cons hs_v2858 (rfl)) sz38 rfl (fun a cs ap r => by obtain ⟨v0_, e, p0_⟩ := r; subst e; exact ⟨v2858, rfl, ap.get 0 rfl⟩) rfl rfl rfl (go ?_)
    obtain rfl := Option.some.inj ho
    exact QE.lower m2851 (by omega) fun a w2 ha hw => ⟨(l2848.set x2850.toNat ({ x2861 with Kinds := t2857 } : types_Row)), (IntKind.i64.wrap (x2850 + 1)), v2849, (by omega), hr, ha.sub sb, (St.selP [2] rfl hw)⟩
   refine go ?_
   obtain rfl := fin ho hr
   exact QE.rt (fun _ h => St.selO [0] rfl rfl h)
  refine DT.cut (ι := Value × Value × Nat) (fun z => [(6, .pointer (some ⟨b18, 0, none⟩)), (42, .pointer (some ⟨z.2.2, 0, none⟩))]) (fun z w2 => St w em hV [slP (kInt .u8) v12 x11.Args, slP (kInt .u8) v14 x11.Locals, slP k_api_Instr v16 x11.Code, elP k_api_Method p9 x11, slP k_api_Value v_m_0_Globals m_0.Globals, slP k_api_Value v_m_0_Pool m_0.Pool, slP k_api_Method v_m_0_Methods m_0.Methods, arrP k_arr221 0 tab0] [arrK k_types_Row z.2.2 [v_m_0_Globals, v_m_0_Pool, v_m_0_Methods, .int .i64 m_0.Migrate, v12, v14, .int .u8 x11.Result, .bool x11.Reads, .int .i64 x11.Fuel, .int .i64 x11.Stack, .int .i64 x11.Heap, v16, z.2.1] 200 (List.replicate 200 types_Row.zero : List types_Row) [] 97, slO (kInt .u8) 5 z.2.1 t1828, slO (kSl (kInt .u8)) 38 z.1 [x11.Args, x11.Locals], boxO b18 [v12, v14, .int .u8 x11.Result, .bool x11.Reads, .int .i64 x11.Fuel, .int .i64 x11.Stack, .int .i64 x11.Heap, v16] 41, boxO b4 [v_m_0_Globals, v_m_0_Pool, v_m_0_Methods, .int .i64 m_0.Migrate] 25] w2) 2 #[true, true, true, true, true, true, true, true, true, true, false, false] (fun z => ?_) (fun J2868 => ?_)
  ·obtain ⟨v1430, v1630, b2030⟩ := z
   refine DT.one 10 rfl (by kernel_rfl) rfl ?_
   refine SP.alloc (cs := [.pointer none]) inf93 rfl rfl (fun b2230 => go ?_)
   refine QE.atT (fun w2 hw => (St.selO [4, 5] rfl rfl hw)) ?_
   refine DT.list (l2 := #[true, true, true, true, true, true, true, true, true, true, true, false]) (by kernel_rfl) ?_
   exact DT.weak (by exact ⟨rfl, rfl, rfl, trivial⟩) (by exact fun w2 hw => hw) (J2746 (v1430, v1630, b2030, b2230))
  refine DT.cut (ι := Value × Value × Nat) (fun z => [(6, .pointer (some ⟨b18, 0, none⟩)), (8, .pointer (some ⟨z.2.2, 0, none⟩)), (41, .agg (([v_m_0_Globals, v_m_0_Pool, v_m_0_Methods, .int .i64 m_0.Migrate, v12, v14, .int .u8 x11.Result, .bool x11.Reads, .int .i64 x11.Fuel, .int .i64 x11.Stack, .int .i64 x11.Heap, v16, z.2.1] ++ zz200_2384)).toArray)]) (fun z w2 => St w em hV [slP (kInt .u8) v12 x11.Args, slP (kInt .u8) v14 x11.Locals, slP k_api_Instr v16 x11.Code, elP k_api_Method p9 x11, slP k_api_Value v_m_0_Globals m_0.Globals, slP k_api_Value v_m_0_Pool m_0.Pool, slP k_api_Method v_m_0_Methods m_0.Methods, arrP k_arr221 0 tab0] [boxO z.2.2 [.pointer none] 93, slO (kInt .u8) 5 z.2.1 t1828, slO (kSl (kInt .u8)) 38 z.1 [x11.Args, x11.Locals], boxO b18 [v12, v14, .int .u8 x11.Result, .bool x11.Reads, .int .i64 x11.Fuel, .int .i64 x11.Stack, .int .i64 x11.Heap, v16] 41, boxO b4 [v_m_0_Globals, v_m_0_Pool, v_m_0_Methods, .int .i64 m_0.Migrate] 25] w2) 2 #[true, true, true, true, true, true, true, true, true, false, true, false] (fun z => ?_) (fun J2869 => ?_)
  ·obtain ⟨v1430, v1630, b2230⟩ := z
   refine DT.one 9 rfl (by kernel_rfl) rfl ?_
   refine SP.box rfl rfl rfl rfl fun b2030 => ?_
   refine SP.imp (fun w2 hw => St.arrK (k := k_types_Row) 0 rfl (List.replicate 200 types_Row.zero : List types_Row) [v_m_0_Globals, v_m_0_Pool, v_m_0_Methods, .int .i64 m_0.Migrate, v12, v14, .int .u8 x11.Result, .bool x11.Reads, .int .i64 x11.Fuel, .int .i64 x11.Stack, .int .i64 x11.Heap, v16, v1630] zz200_2384 [] (Flat.rep (k := k_types_Row) (z := [.bool false, (.slice none 0 0)]) (x := types_Row.zero) ⟨_, rfl, slP.nil _ _⟩ 200) (congrArg _ (List.append_nil _).symm) List.length_replicate hw) (go ?_)
   refine QE.atT (fun w2 hw => (St.selO [4, 5] rfl rfl hw)) ?_
   refine DT.list (l2 := #[true, true, true, true, true, true, true, true, true, true, true, false]) (by kernel_rfl) ?_
   exact DT.weak (by exact ⟨rfl, rfl, rfl, trivial⟩) (by exact fun w2 hw => (St.selO [1, 0, 2, 3, 4, 5] rfl rfl hw)) (J2746 (v1430, v1630, b2030, b2230))
  refine DT.cut (ι := Value × Value) (fun z => [(6, .pointer (some ⟨b18, 0, none⟩)), (41, .agg (([v_m_0_Globals, v_m_0_Pool, v_m_0_Methods, .int .i64 m_0.Migrate, v12, v14, .int .u8 x11.Result, .bool x11.Reads, .int .i64 x11.Fuel, .int .i64 x11.Stack, .int .i64 x11.Heap, v16, z.2] ++ zz200_2384)).toArray)]) (fun z w2 => St w em hV [slP (kInt .u8) v12 x11.Args, slP (kInt .u8) v14 x11.Locals, slP k_api_Instr v16 x11.Code, elP k_api_Method p9 x11, slP k_api_Value v_m_0_Globals m_0.Globals, slP k_api_Value v_m_0_Pool m_0.Pool, slP k_api_Method v_m_0_Methods m_0.Methods, arrP k_arr221 0 tab0] [slO (kInt .u8) 5 z.2 t1828, slO (kSl (kInt .u8)) 38 z.1 [x11.Args, x11.Locals], boxO b18 [v12, v14, .int .u8 x11.Result, .bool x11.Reads, .int .i64 x11.Fuel, .int .i64 x11.Stack, .int .i64 x11.Heap, v16] 41, boxO b4 [v_m_0_Globals, v_m_0_Pool, v_m_0_Methods, .int .i64 m_0.Migrate] 25] w2) 3 #[true, true, true, true, true, true, true, true, true, false, false, false] (fun z => ?_) (fun J2870 => ?_)
  ·obtain ⟨v1430, v1630⟩ := z
   refine DT.any 9 [10] (by kernel_rfl) ⟨⟨_, rfl, rfl, ?_⟩, ⟨_, rfl, rfl, ?_⟩, trivial⟩
   ·refine SP.box rfl rfl rfl rfl fun b2030 => ?_
    refine SP.imp (fun w2 hw => St.arrK (k := k_types_Row) 0 rfl (List.replicate 200 types_Row.zero : List types_Row) [v_m_0_Globals, v_m_0_Pool, v_m_0_Methods, .int .i64 m_0.Migrate, v12, v14, .int .u8 x11.Result, .bool x11.Reads, .int .i64 x11.Fuel, .int .i64 x11.Stack, .int .i64 x11.Heap, v16, v1630] zz200_2384 [] (Flat.rep (k := k_types_Row) (z := [.bool false, (.slice none 0 0)]) (x := types_Row.zero) ⟨_, rfl, slP.nil _ _⟩ 200) (congrArg _ (List.append_nil _).symm) List.length_replicate hw) (go ?_)
    refine QE.atT (fun w2 hw => (St.selO [3, 4] rfl rfl hw)) ?_
    refine DT.list (l2 := #[true, true, true, true, true, true, true, true, true, true, false, false]) (by kernel_rfl) ?_
    exact DT.weak (by exact ⟨rfl, rfl, trivial⟩) (by exact fun w2 hw => hw) (J2868 (v1430, v1630, b2030))
   refine SP.alloc (cs := [.pointer none]) inf93 rfl rfl (fun b2230 => go ?_)
   refine QE.atT (fun w2 hw => (St.selO [3, 4] rfl rfl hw)) ?_
   refine DT.list (l2 := #[true, true, true, true, true, true, true, true, true, false, true, false]) (by kernel_rfl) ?_
   exact DT.weak (by exact ⟨rfl, rfl, rfl, trivial⟩) (by exact fun w2 hw => hw) (J2869 (v1430, v1630, b2230))
  refine DT.cut (ι := Value × Value × Nat) (fun z => [(6, .pointer (some ⟨b18, 0, none⟩)), (8, .pointer (some ⟨z.2.2, 0, none⟩)), (33, .agg #[v_m_0_Globals, v_m_0_Pool, v_m_0_Methods, .int .i64 m_0.Migrate]), (34, .agg #[v12, v14, .int .u8 x11.Result, .bool x11.Reads, .int .i64 x11.Fuel, .int .i64 x11.Stack, .int .i64 x11.Heap, v16]), (40, z.2.1)]) (fun z w2 => St w em hV [slP (kInt .u8) v12 x11.Args, slP (kInt .u8) v14 x11.Locals, slP k_api_Instr v16 x11.Code, elP k_api_Method p9 x11, slP k_api_Value v_m_0_Globals m_0.Globals, slP k_api_Value v_m_0_Pool m_0.Pool, slP k_api_Method v_m_0_Methods m_0.Methods, arrP k_arr221 0 tab0] [boxO z.2.2 [.pointer none] 93, slO (kInt .u8) 5 z.2.1 t1828, slO (kSl (kInt .u8)) 38 z.1 [x11.Args, x11.Locals], boxO b18 [v12, v14, .int .u8 x11.Result, .bool x11.Reads, .int .i64 x11.Fuel, .int .i64 x11.Stack, .int .i64 x11.Heap, v16] 41, boxO b4 [v_m_0_Globals, v_m_0_Pool, v_m_0_Methods, .int .i64 m_0.Migrate] 25] w2) 3 #[true, true, true, true, true, true, true, true, false, false, true, false] (fun z => ?_) (fun J2875 => ?_)
  ·obtain ⟨v1430, v1630, b2230⟩ := z
   refine DT.one 8 rfl (by kernel_rfl) rfl ?_
   refine SP.have (fun w2 hw => slO.shape (St.own 1 rfl see.sub see.dj hw)) (fun hs_v1630 => ?_)
   refine SP.val (Val.buildC (us := [(0, .agg #[v_m_0_Globals, v_m_0_Pool, v_m_0_Methods, .int .i64 m_0.Migrate]), (1, .agg #[v12, v14, .int .u8 x11.Result, .bool x11.Reads, .int .i64 x11.Fuel, .int .i64 x11.Stack, .int .i64 x11.Heap, v16]), (2, v1630)]) (ucs := [(0, [v_m_0_Globals, v_m_0_Pool, v_m_0_Methods, .int .i64 m_0.Migrate]), (1, [v12, v14, .int .u8 x11.Result, .bool x11.Reads, .int .i64 x11.Fuel, .int .i64 x11.Stack, .int .i64 x11.Heap, v16]), (2, [v1630])]) (cs := ([v_m_0_Globals, v_m_0_Pool, v_m_0_Methods, .int .i64 m_0.Migrate, v12, v14, .int .u8 x11.Result, .bool x11.Reads, .int .i64 x11.Fuel, .int .i64 x11.Stack, .int .i64 x11.Heap, v16, v1630] ++ zz200_2384)) bt97 rfl rfl ⟨rfl, rfl, ⟨rfl, rfl, ⟨rfl, one_cells hs_v1630, trivial⟩⟩⟩ (by rfl)) rfl rfl rfl (go ?_)
   refine QE.atT (fun w2 hw => (St.selO [3, 4] rfl rfl hw)) ?_
   refine DT.list (l2 := #[true, true, true, true, true, true, true, true, true, false, true, false]) (by kernel_rfl) ?_
   exact DT.weak (by exact ⟨rfl, rfl, rfl, trivial⟩) (by exact fun w2 hw => hw) (J2869 (v1430, v1630, b2230))
  refine DT.cut (ι := Value × Value) (fun z => [(6, .pointer (some ⟨b18, 0, none⟩)), (33, .agg #[v_m_0_Globals, v_m_0_Pool, v_m_0_Methods, .int .i64 m_0.Migrate]), (34, .agg #[v12, v14, .int .u8 x11.Result, .bool x11.Reads, .int .i64 x11.Fuel, .int .i64 x11.Stack, .int .i64 x11.Heap, v16]), (40, z.2)]) (fun z w2 => St w em hV [slP (kInt .u8) v12 x11.Args, slP (kInt .u8) v14 x11.Locals, slP k_api_Instr v16 x11.Code, elP k_api_Method p9 x11, slP k_api_Value v_m_0_Globals m_0.Globals, slP k_api_Value v_m_0_Pool m_0.Pool, slP k_api_Method v_m_0_Methods m_0.Methods, arrP k_arr221 0 tab0] [slO (kInt .u8) 5 z.2 t1828, slO (kSl (kInt .u8)) 38 z.1 [x11.Args, x11.Locals], boxO b18 [v12, v14, .int .u8 x11.Result, .bool x11.Reads, .int .i64 x11.Fuel, .int .i64 x11.Stack, .int .i64 x11.Heap, v16] 41, boxO b4 [v_m_0_Globals, v_m_0_Pool, v_m_0_Methods, .int .i64 m_0.Migrate] 25] w2) 4 #[true, true, true, true, true, true, true, true, false, false, false, false] (fun z => ?_) (fun J2878 => ?_)
  ·obtain ⟨v1430, v1630⟩ := z
   refine DT.any 8 [10] (by kernel_rfl) ⟨⟨_, rfl, rfl, ?_⟩, ⟨_, rfl, rfl, ?_⟩, trivial⟩
   ·refine SP.have (fun w2 hw => slO.shape (St.own 0 rfl see.sub see.dj hw)) (fun hs_v1630 => ?_)
    refine SP.val (Val.buildC (us := [(0, .agg #[v_m_0_Globals, v_m_0_Pool, v_m_0_Methods, .int .i64 m_0.Migrate]), (1, .agg #[v12, v14, .int .u8 x11.Result, .bool x11.Reads, .int .i64 x11.Fuel, .int .i64 x11.Stack, .int .i64 x11.Heap, v16]), (2, v1630)]) (ucs := [(0, [v_m_0_Globals, v_m_0_Pool, v_m_0_Methods, .int .i64 m_0.Migrate]), (1, [v12, v14, .int .u8 x11.Result, .bool x11.Reads, .int .i64 x11.Fuel, .int .i64 x11.Stack, .int .i64 x11.Heap, v16]), (2, [v1630])]) (cs := ([v_m_0_Globals, v_m_0_Pool, v_m_0_Methods, .int .i64 m_0.Migrate, v12, v14, .int .u8 x11.Result, .bool x11.Reads, .int .i64 x11.Fuel, .int .i64 x11.Stack, .int .i64 x11.Heap, v16, v1630] ++ zz200_2384)) bt97 rfl rfl ⟨rfl, rfl, ⟨rfl, rfl, ⟨rfl, one_cells hs_v1630, trivial⟩⟩⟩ (by rfl)) rfl rfl rfl (go ?_)
    refine QE.atT (fun w2 hw => (St.selO [2, 3] rfl rfl hw)) ?_
    refine DT.list (l2 := #[true, true, true, true, true, true, true, true, true, false, false, false]) (by kernel_rfl) ?_
    exact DT.weak (by exact ⟨rfl, rfl, trivial⟩) (by exact fun w2 hw => hw) (J2870 (v1430, v1630))
   refine SP.alloc (cs := [.pointer none]) inf93 rfl rfl (fun b2230 => go ?_)
   refine QE.atT (fun w2 hw => (St.selO [3, 4] rfl rfl hw)) ?_
   refine DT.list (l2 := #[true, true, true, true, true, true, true, true, false, false, true, false]) (by kernel_rfl) ?_
   exact DT.weak (by exact ⟨rfl, rfl, rfl, rfl, rfl, trivial⟩) (by exact fun w2 hw => hw) (J2875 (v1430, v1630, b2230))
  refine DT.cut (ι := Value × Nat) (fun z => [(6, .pointer (some ⟨b18, 0, none⟩)), (8, .pointer (some ⟨z.2, 0, none⟩)), (33, .agg #[v_m_0_Globals, v_m_0_Pool, v_m_0_Methods, .int .i64 m_0.Migrate]), (34, .agg #[v12, v14, .int .u8 x11.Result, .bool x11.Reads, .int .i64 x11.Fuel, .int .i64 x11.Stack, .int .i64 x11.Heap, v16]), (39, z.1)]) (fun z w2 => St w em hV [slP (kInt .u8) v12 x11.Args, slP (kInt .u8) v14 x11.Locals, slP k_api_Instr v16 x11.Code, elP k_api_Method p9 x11, slP k_api_Value v_m_0_Globals m_0.Globals, slP k_api_Value v_m_0_Pool m_0.Pool, slP k_api_Method v_m_0_Methods m_0.Methods, arrP k_arr221 0 tab0] [boxO z.2 [.pointer none] 93, slO (kSl (kInt .u8)) 38 z.1 [x11.Args, x11.Locals], boxO b18 [v12, v14, .int .u8 x11.Result, .bool x11.Reads, .int .i64 x11.Fuel, .int .i64 x11.Stack, .int .i64 x11.Heap, v16] 41, boxO b4 [v_m_0_Globals, v_m_0_Pool, v_m_0_Methods, .int .i64 m_0.Migrate] 25] w2) 4 #[true, true, true, true, true, true, true, false, false, false, true, false] (fun z => ?_) (fun J2883 => ?_)
  ·obtain ⟨v1430, b2230⟩ := z
   refine DT.one 7 rfl (by kernel_rfl) rfl ?_
   refine SP.callKO see (caps := []) _ fn43 rfl rfl rfl rfl (fun w2 hs => slices_Concat_uint8_uint8.ok [x11.Args, x11.Locals] _ _ hc_t1828 w2 (hp w2) (Sub.refl _) (slO.read (St.own 1 rfl see.sub see.dj hs) (Sub.refl _) (Sub.refl _))) (fun v a a2 b ⟨v1630, e, h⟩ => ⟨v1630, e, (Sep.fcons (fun _ => slO.flip (fun _ _ _ _ h => h)) (fun _ => Sep.fnil)) h⟩) (SP.k1 fun v1630 => go ?_)
   refine QE.atT (fun w2 hw => (St.selO [3, 4] rfl rfl hw)) ?_
   refine DT.list (l2 := #[true, true, true, true, true, true, true, true, false, false, true, false]) (by kernel_rfl) ?_
   exact DT.weak (by exact ⟨rfl, rfl, rfl, rfl, rfl, trivial⟩) (by exact fun w2 hw => (St.selO [1, 0, 2, 3, 4] rfl rfl hw)) (J2875 (v1430, v1630, b2230))
  refine DT.cut (ι := Value) (fun z => [(6, .pointer (some ⟨b18, 0, none⟩)), (33, .agg #[v_m_0_Globals, v_m_0_Pool, v_m_0_Methods, .int .i64 m_0.Migrate]), (34, .agg #[v12, v14, .int .u8 x11.Result, .bool x11.Reads, .int .i64 x11.Fuel, .int .i64 x11.Stack, .int .i64 x11.Heap, v16]), (39, z)]) (fun z w2 => St w em hV [slP (kInt .u8) v12 x11.Args, slP (kInt .u8) v14 x11.Locals, slP k_api_Instr v16 x11.Code, elP k_api_Method p9 x11, slP k_api_Value v_m_0_Globals m_0.Globals, slP k_api_Value v_m_0_Pool m_0.Pool, slP k_api_Method v_m_0_Methods m_0.Methods, arrP k_arr221 0 tab0] [slO (kSl (kInt .u8)) 38 z [x11.Args, x11.Locals], boxO b18 [v12, v14, .int .u8 x11.Result, .bool x11.Reads, .int .i64 x11.Fuel, .int .i64 x11.Stack, .int .i64 x11.Heap, v16] 41, boxO b4 [v_m_0_Globals, v_m_0_Pool, v_m_0_Methods, .int .i64 m_0.Migrate] 25] w2) 5 #[true, true, true, true, true, true, true, false, false, false, false, false] (fun z => ?_) (fun J2884 => ?_)
  ·rename Value => v1430
   refine DT.any 7 [10] (by kernel_rfl) ⟨⟨_, rfl, rfl, ?_⟩, ⟨_, rfl, rfl, ?_⟩, trivial⟩
   ·refine SP.callKO see (caps := []) _ fn43 rfl rfl rfl rfl (fun w2 hs => slices_Concat_uint8_uint8.ok [x11.Args, x11.Locals] _ _ hc_t1828 w2 (hp w2) (Sub.refl _) (slO.read (St.own 0 rfl see.sub see.dj hs) (Sub.refl _) (Sub.refl _))) (fun v a a2 b ⟨v1630, e, h⟩ => ⟨v1630, e, (Sep.fcons (fun _ => slO.flip (fun _ _ _ _ h => h)) (fun _ => Sep.fnil)) h⟩) (SP.k1 fun v1630 => go ?_)
    refine QE.atT (fun w2 hw => (St.selO [2, 3] rfl rfl hw)) ?_
    refine DT.list (l2 := #[true, true, true, true, true, true, true, true, false, false, false, false]) (by kernel_rfl) ?_
    exact DT.weak (by exact ⟨rfl, rfl, rfl, rfl, trivial⟩) (by exact fun w2 hw => hw) (J2878 (v1430, v1630))
   refine SP.alloc (cs := [.pointer none]) inf93 rfl rfl (fun b2230 => go ?_)
   refine QE.atT (fun w2 hw => (St.selO [2, 3] rfl rfl hw)) ?_
   refine DT.list (l2 := #[true, true, true, true, true, true, true, false, false, false, true, false]) (by kernel_rfl) ?_
   exact DT.weak (by exact ⟨rfl, rfl, rfl, rfl, rfl, trivial⟩) (by exact fun w2 hw => hw) (J2883 (v1430, b2230))
  refine DT.cut (ι := Nat) (fun z => [(6, .pointer (some ⟨b18, 0, none⟩)), (8, .pointer (some ⟨z, 0, none⟩)), (33, .agg #[v_m_0_Globals, v_m_0_Pool, v_m_0_Methods, .int .i64 m_0.Migrate]), (34, .agg #[v12, v14, .int .u8 x11.Result, .bool x11.Reads, .int .i64 x11.Fuel, .int .i64 x11.Stack, .int .i64 x11.Heap, v16]), (36, v12), (38, v14)]) (fun z w2 => St w em hV [slP (kInt .u8) v12 x11.Args, slP (kInt .u8) v14 x11.Locals, slP k_api_Instr v16 x11.Code, elP k_api_Method p9 x11, slP k_api_Value v_m_0_Globals m_0.Globals, slP k_api_Value v_m_0_Pool m_0.Pool, slP k_api_Method v_m_0_Methods m_0.Methods, arrP k_arr221 0 tab0] [boxO z [.pointer none] 93, boxO b18 [v12, v14, .int .u8 x11.Result, .bool x11.Reads, .int .i64 x11.Fuel, .int .i64 x11.Stack, .int .i64 x11.Heap, v16] 41, boxO b4 [v_m_0_Globals, v_m_0_Pool, v_m_0_Methods, .int .i64 m_0.Migrate] 25] w2) 5 #[true, true, true, true, true, true, false, false, false, false, true, false] (fun z => ?_) (fun J2888 => ?_)
  ·rename Nat => b2230
   refine DT.one 6 rfl (by kernel_rfl) rfl ?_
   refine SP.litS (k := (kSl (kInt .u8))) (xs := [x11.Args, x11.Locals]) (vs := [v12, v14]) Tryz.underlying141 inf38 rfl rfl rfl rfl rfl rfl (fun _ ap => ⟨slR.cells1 (ap.get 0 rfl), slR.cells1 (ap.get 1 rfl), trivial⟩) (fun _ ap => ⟨[v12], _, rfl, ⟨_, rfl, ap.get 0 rfl⟩, ⟨[v14], _, rfl, ⟨_, rfl, ap.get 1 rfl⟩, rfl⟩⟩) rfl rfl rfl (fun v1430 => go ?_)
   refine QE.atT (fun w2 hw => (St.selO [2, 3] rfl rfl hw)) ?_
   refine DT.list (l2 := #[true, true, true, true, true, true, true, false, false, false, true, false]) (by kernel_rfl) ?_
   exact DT.weak (by exact ⟨rfl, rfl, rfl, rfl, rfl, trivial⟩) (by exact fun w2 hw => (St.selO [1, 0, 2, 3] rfl rfl hw)) (J2883 (v1430, b2230))
  refine DT.any 6 [10] (by kernel_rfl) ⟨⟨_, rfl, rfl, ?_⟩, ⟨_, rfl, rfl, ?_⟩, trivial⟩
  ·refine SP.litS (k := (kSl (kInt .u8))) (xs := [x11.Args, x11.Locals]) (vs := [v12, v14]) Tryz.underlying141 inf38 rfl rfl rfl rfl rfl rfl (fun _ ap => ⟨slR.cells1 (ap.get 0 rfl), slR.cells1 (ap.get 1 rfl), trivial⟩) (fun _ ap => ⟨[v12], _, rfl, ⟨_, rfl, ap.get 0 rfl⟩, ⟨[v14], _, rfl, ⟨_, rfl, ap.get 1 rfl⟩, rfl⟩⟩) rfl rfl rfl (fun v1430 => go ?_)
   refine QE.atT (fun w2 hw => (St.selO [1, 2] rfl rfl hw)) ?_
   refine DT.list (l2 := #[true, true, true, true, true, true, true, false, false, false, false, false]) (by kernel_rfl) ?_
   exact DT.weak (by exact ⟨rfl, rfl, rfl, rfl, trivial⟩) (by exact fun w2 hw => hw) (J2884 v1430)
  refine SP.alloc (cs := [.pointer none]) inf93 rfl rfl (fun b2230 => go ?_)
  refine QE.atT (fun w2 hw => (St.selO [1, 2] rfl rfl hw)) ?_
  refine DT.list (l2 := #[true, true, true, true, true, true, false, false, false, false, true, false]) (by kernel_rfl) ?_
  exact DT.weak (by exact ⟨rfl, rfl, rfl, rfl, rfl, rfl, trivial⟩) (by exact fun w2 hw => hw) (J2888 b2230)
 refine SP.bb 15 (fun hq7 => ?_) fun hq7 => ?_
 ·refine go ?_
  exact QE.jb (or_t hq7) fun w2 hw => hw
 refine go ?_
 exact QE.jb (or_f hq7 rfl) fun w2 hw => hw
def types_Check.f (m_0 : api_Module) (k_1 : Int) : Option Int :=
  (types_Rows.f m_0 k_1).bind fun t6 => some t6.2
theorem types_Check.ok (m_0 : api_Module) (k_1 : Int) (v_m_0_Globals v_m_0_Pool v_m_0_Methods : Value)  (r : Int) (H : types_Check.f m_0 k_1 = some r) (w : World) (hV : Hp) (sV : Sub hV (hp w)) (h0 : slR k_api_Value hV v_m_0_Globals m_0.Globals) (h1 : slR k_api_Value hV v_m_0_Pool m_0.Pool) (h2 : slR k_api_Method hV v_m_0_Methods m_0.Methods) (h3 : (arrP k_arr221 0 tab0).p hV) :
    Trip Tryz.prog 28 [.agg #[v_m_0_Globals, v_m_0_Pool, v_m_0_Methods, .int .i64 m_0.Migrate], .int .i64 k_1].toArray em hV w (fun v => HO.pure (v = .int .i64 r)) := by
 refine Trip.go 14 Tryz.func28 sV (aS h0 (aS h1 (aS h2 (All.cons (x := arrP k_arr221 0 tab0) h3 (All.nil _))))) fun see => ?_
 have ho := H
 refine go ?_
 refine SP.box rfl rfl rfl rfl fun b4 => go ?_
 refine SP.val (Val.loadA 0 rfl Tryz.underlying25 rfl sz25 rfl rfl rfl) rfl rfl rfl (go ?_)
 obtain ⟨t6, hc, ho⟩ := bind_some ho
 refine SP.callK see (caps := []) _ fn22 rfl rfl rfl rfl (fun w2 hP hs sub ap => types_Rows.ok _ _ _ _ _ _ hc w2 hP sub (ap.get 0 rfl) (ap.get 1 rfl) (ap.get 2 rfl) (ap.get 3 rfl)) (SP.k1 fun v7 => ?_)
 clear hc
 refine go ?_
 obtain rfl := Option.some.inj ho
 exact QE.rt (fun _ h => h)
inductive slices_Repeat_int_int.S where
  | start
  | l1 (l12 : List Int) (x14 : Int)
def slices_Repeat_int_int.j2 (x_0 : (List Int)) (count_1 : Int) (t3 : Int × Int) : Option (slices_Repeat_int_int.S ⊕ (List Int)) :=
  if (0 : Int) ≤ (IntKind.i64.wrap t3.2) ∧ (8 : Int) * (IntKind.i64.wrap t3.2) ≤ 281474976710656 ∧ ((IntKind.i64.wrap t3.2) : Int) ≤ 9223372036854775807 then (some (.inl (.l1 (x_0.take (List.replicate (IntKind.i64.wrap t3.2 : Int).toNat 0 : List Int).length ++ (List.replicate (IntKind.i64.wrap t3.2 : Int).toNat 0 : List Int).drop x_0.length) ((min x_0.length (List.replicate (IntKind.i64.wrap t3.2 : Int).toNat 0 : List Int).length : Nat) : Int)))) else none
def slices_Repeat_int_int.j1 (x_0 : (List Int)) (count_1 : Int)  : Option (slices_Repeat_int_int.S ⊕ (List Int)) :=
  (math_bits_Mul.f (IntKind.u64.wrap (x_0.length : Int)) (IntKind.u64.wrap count_1)).bind fun t3 => if ((decide (t3.1 > 0)) || (decide (t3.2 > 9223372036854775807))) = true then (none) else (slices_Repeat_int_int.j2 x_0 count_1 t3)
def slices_Repeat_int_int.F (x_0 : (List Int)) (count_1 : Int) : slices_Repeat_int_int.S → Option (slices_Repeat_int_int.S ⊕ (List Int))
  | .start => if count_1 < 0 then (none) else (slices_Repeat_int_int.j1 x_0 count_1)
  | .l1 l12 x14 => if x14 < (l12.length : Int) then (if (0 : Int) ≤ x14 ∧ x14 ≤ (l12.length : Int) then (if (0 : Int) ≤ x14 ∧ x14 ≤ (l12.length : Int) then (some (.inl (.l1 (l12.take (x14 : Int).toNat ++ l12.take (min (x14 : Int).toNat (l12.length - (x14 : Int).toNat)) ++ l12.drop ((x14 : Int).toNat + min (x14 : Int).toNat (l12.length - (x14 : Int).toNat))) (IntKind.i64.wrap (x14 + ((min (x14 : Int).toNat (l12.length - (x14 : Int).toNat) : Nat) : Int)))))) else none) else none) else (some (.inr l12))
def slices_Repeat_int_int.f (x_0 : (List Int)) (count_1 : Int) : Option (List Int) := runF (slices_Repeat_int_int.F x_0 count_1) .start
theorem slices_Repeat_int_int.ok (x_0 : (List Int)) (count_1 : Int) (v_x_0 : Value) (r : (List Int)) (H : slices_Repeat_int_int.f x_0 count_1 = some r) (w : World) (hV : Hp) (sV : Sub hV (hp w)) (h0 : slR (kInt .i64) hV v_x_0 x_0) :
    Trip Tryz.prog 80 [v_x_0, .int .i64 count_1].toArray em hV w (fun v => HO.ex fun u0 : Value => HO.pand (v = u0) (HO.seps [slO (kInt .i64) 3 u0 r])) := by
 refine Trip.go 48 Tryz.func80 sV (aS h0 (All.nil _)) fun see => ?_
 obtain ⟨n0, hi⟩ := runF_iff.1 H
 obtain ⟨m0, o, hm0, ho, hr⟩ := iter_some hi
 clear hi
 refine go ?_
 refine CP.join (fun a w2 => ∃ (m2 : Nat) (o : (slices_Repeat_int_int.S ⊕ (List Int))), m2 ≤ m0 ∧ slices_Repeat_int_int.j1 x_0 count_1 = some o ∧ next (slices_Repeat_int_int.F x_0 count_1) m2 o = some r ∧ Env ⟨48, []⟩ [(0, v_x_0), (1, .int .i64 count_1)] a ∧ St w em hV [slP (kInt .i64) v_x_0 x_0] [] w2) ?_ ?_
 ·rintro a w2 ⟨m2, o, hm_m2, ho, hr, ha, hw⟩
  refine CP.app ha hw ?_
  clear ha hw a w2
  refine go ?_
  refine SP.val (Val.conv (by rw [Tryz.underlying3]; rfl) Tryz.underlying137 rfl) rfl rfl rfl (go ?_)
  refine SP.val (Val.conv (by rw [Tryz.underlying3]; rfl) Tryz.underlying137 rfl) rfl rfl rfl ?_
  obtain ⟨t3, hc, ho⟩ := bind_some ho
  refine SP.callV see (caps := []) (.tuple #[.int .u64 t3.1, .int .u64 t3.2]) fn116 rfl rfl rfl rfl (fun w2 hP hs sub ap => math_bits_Mul.ok _ _  _ hc w2 hP sub ) ?_
  clear hc
  refine go ?_
  refine CP.join (fun a w2 => ∃ (m6 : Nat) (o : (slices_Repeat_int_int.S ⊕ (List Int))), m6 ≤ m2 ∧ slices_Repeat_int_int.j2 x_0 count_1 t3 = some o ∧ next (slices_Repeat_int_int.F x_0 count_1) m6 o = some r ∧ Env ⟨48, []⟩ [(0, v_x_0), (6, .int .u64 t3.2)] a ∧ St w em hV [slP (kInt .i64) v_x_0 x_0] [] w2) ?_ ?_
  ·rintro a w2 ⟨m6, o, hm_m6, ho, hr, ha, hw⟩
   refine CP.app ha hw ?_
   clear ha hw a w2
   refine go ?_
   refine SP.val (Val.conv (by rw [Tryz.underlying137]; rfl) Tryz.underlying3 rfl) rfl rfl rfl ?_
   obtain ⟨hb, ho⟩ := must_some ho
   refine SP.makeO (k := (kInt .i64)) (z := 0) Tryz.underlying55 inf3 rfl (fun _ => rfl) rfl rfl rfl rfl hb (fun v7 => ?_)
   clear hb
   refine go ?_
   refine SP.copyIn see 0 rfl 0 rfl Tryz.underlying55 sz3 rfl rfl rfl rfl rfl (go ?_)
   refine CP.seq (go ?_)
   obtain rfl := Option.some.inj ho
   refine CP.loop (fun cl1 a w2 => ∃ l12 : List Int, ∃ x14 : Int, ∃ v13 : Value, cl1 ≤ m6 ∧ iter (slices_Repeat_int_int.F x_0 count_1) cl1 (.l1 l12 x14) = some r ∧ Env ⟨48, []⟩ [(7, v13), (8, .int .i64 x14)] a ∧ St w em hV [] [slO (kInt .i64) 3 v13 l12] w2) m6 (fun a w2 ha hw => ⟨(x_0.take (List.replicate (IntKind.i64.wrap t3.2 : Int).toNat 0 : List Int).length ++ (List.replicate (IntKind.i64.wrap t3.2 : Int).toNat 0 : List Int).drop x_0.length), ((min x_0.length (List.replicate (IntKind.i64.wrap t3.2 : Int).toNat 0 : List Int).length : Nat) : Int), v7, Nat.le_refl _, hr, ha.sub sb, (St.selP [] rfl hw)⟩) ?_
   clear hr
   rintro cl1 a w2 ⟨l12, x14, v13, hc_l1, hi, ha, hw⟩
   obtain ⟨m15, o, hm_m15, ho, hr⟩ := iter_some hi
   refine CP.app ha hw ?_
   clear ha hw a w2 hi
   refine CP.seq (go ?_)
   refine SP.val (Val.lenW (fun w2 hw => slO.whole (St.own 0 rfl see.sub see.dj hw)) Tryz.underlying55 rfl) rfl rfl rfl (go ?_)
   refine CP.ci ho (fun ho => ?_) fun ho => ?_
   ·refine go ?_
    refine CP.drawA (by kernel_rfl) (fun w2 k h => h.drawn k) ?_
    refine DA.phase (fun _ => true) (fun _ => True) ?_
    refine DT.take 0 rfl rfl rfl rfl (by kernel_rfl) (fun _ _ _ h => h) (Val.move rfl) (fun _ _ => trivial) ?_
    refine DT.take 1 rfl rfl rfl rfl (by kernel_rfl) (fun _ _ _ h => h) (Val.move rfl) (fun _ _ => trivial) ?_
    refine DT.take 2 rfl rfl rfl rfl (by kernel_rfl) (fun _ _ _ h => h) (Val.move rfl) (fun _ _ => trivial) ?_
    refine DT.take 4 rfl rfl rfl rfl (by kernel_rfl) (fun _ _ _ h => h) (Val.move rfl) (fun _ _ => trivial) ?_
    refine DT.take 5 rfl rfl rfl rfl (by kernel_rfl) (fun _ _ _ h => h) (Val.move rfl) (fun _ _ => trivial) ?_
    refine DT.list (l2 := #[true, true, true, false, true, true, false, false, false, false]) (by kernel_rfl) ?_
    refine DT.free ?_
    obtain ⟨hz16, ho⟩ := must_some ho
    obtain ⟨hz17, ho⟩ := must_some ho
    refine DA.ph 0 7 ?_
    refine DT.tv 3 rfl (Val.sliceFrom see 0 rfl Tryz.underlying55 sz3 rfl rfl hz16) ?_
    refine DT.tv 6 rfl (Val.sliceTo see 0 rfl Tryz.underlying55 sz3 rfl rfl hz17) ?_
    refine DT.next (by kernel_rfl) ?_
    refine DA.one 7 rfl (by kernel_rfl) ?_
    refine SP.copyOver see 0 rfl Tryz.underlying55 sz3 rfl (by omega) rfl rfl rfl rfl (go ?_)
    refine QE.atA ?_
    refine DA.one 8 rfl (by kernel_rfl) (go ?_)
    refine QE.atA ?_
    refine DA.one 9 rfl (by kernel_rfl) (go ?_)
    refine QE.atA ?_
    refine DA.done (by kernel_rfl) (go ?_)
    obtain rfl := Option.some.inj ho
    exact QE.lower m15 (by omega) fun a w2 ha hw => ⟨(l12.take (x14 : Int).toNat ++ l12.take (min (x14 : Int).toNat (l12.length - (x14 : Int).toNat)) ++ l12.drop ((x14 : Int).toNat + min (x14 : Int).toNat (l12.length - (x14 : Int).toNat))), (IntKind.i64.wrap (x14 + ((min (x14 : Int).toNat (l12.length - (x14 : Int).toNat) : Nat) : Int))), v13, (by omega), hr, ha.sub sb, hw⟩
   refine go ?_
   obtain rfl := fin ho hr
   exact QE.rt (fun _ h => St.selO [0] rfl rfl h)
  refine go ?_
  refine SP.jn 3 [0, 6] 26 (.bool ((decide (t3.1 > 0)) || (decide (t3.2 > 9223372036854775807)))) ?_ ?_
  ·refine go ?_
   refine CP.cb ho (fun ho => ?_) fun ho => ?_
   ·cases ho
   refine go ?_
   exact QE.meet fun a w2 ha hw => ⟨m2, _, (by omega), ho, hr, ha.sub sb, hw⟩
  refine SP.bb 23 (fun hq5 => ?_) fun hq5 => ?_
  ·refine go ?_
   exact QE.jb (or_t hq5) fun w2 hw => hw
  refine go ?_
  exact QE.jb (or_f hq5 rfl) fun w2 hw => hw
 refine go ?_
 refine CP.ci ho (fun ho => ?_) fun ho => ?_
 ·cases ho
 refine go ?_
 exact QE.meet fun a w2 ha hw => ⟨m0, _, (by omega), ho, hr, ha.sub sb, hw⟩
inductive flow_Times.S where
  | start
  | l1 (t2 : (List flow_Loop) × Int) (l32 : List Int) (x34 : Int)
  | l2 (t2 : (List flow_Loop) × Int) (x34 : Int) (x37 : flow_Loop) (l45 : List Int) (x47 : Int)
def flow_Times.F (l_0 : (List api_Instr)) : flow_Times.S → Option (flow_Times.S ⊕ ((List Int) × Int))
  | .start => (flow_Loops.f l_0).bind fun t2 => if t2.2 ≠ 0 then (some (.inr ([], t2.2))) else ((slices_Repeat_int_int.f [1] (l_0.length : Int)).bind fun t8 => some (.inl (.l1 t2 t8 0)))
  | .l1 t2 l32 x34 => if x34 < (t2.1.length : Int) then ((elt t2.1 x34).bind fun x37 => some (.inl (.l2 t2 x34 x37 l32 (IntKind.i64.wrap (x37.From + 1))))) else (some (.inr (l32, 0)))
  | .l2 t2 x34 x37 l45 x47 => if x47 ≤ x37.To then ((elt l45 x47).bind fun x50 => (elt l45 x47).bind fun x52 => some (.inl (.l2 t2 x34 x37 (l45.set x47.toNat (IntKind.i64.wrap (x50 * x37.Turns))) (IntKind.i64.wrap (x47 + 1))))) else (some (.inl (.l1 t2 l45 (IntKind.i64.wrap (x34 + 1)))))
def flow_Times.f (l_0 : (List api_Instr)) : Option ((List Int) × Int) := runF (flow_Times.F l_0) .start
theorem flow_Times.ok (l_0 : (List api_Instr)) (v_l_0 : Value)  (r : (List Int) × Int) (H : flow_Times.f l_0 = some r) (w : World) (hV : Hp) (sV : Sub hV (hp w)) (h0 : slR k_api_Instr hV v_l_0 l_0) (h1 : (arrP k_arr221 0 tab0).p hV) :
    Trip Tryz.prog 54 [v_l_0].toArray em hV w (fun v => HO.ex fun u0 : Value => HO.pand (v = .tuple #[u0, .int .i64 r.2]) (HO.seps [slO (kInt .i64) 3 u0 r.1])) := by
 refine Trip.go 47 Tryz.func54 sV (aS h0 (All.cons (x := arrP k_arr221 0 tab0) h1 (All.nil _))) fun see => ?_
 obtain ⟨n0, hi⟩ := runF_iff.1 H
 obtain ⟨m0, o, hm0, ho, hr⟩ := iter_some hi
 clear hi
 refine go ?_
 obtain ⟨t2, hc, ho⟩ := bind_some ho
 refine SP.callK see (caps := []) _ fn71 rfl rfl rfl rfl (fun w2 hP hs sub ap => flow_Loops.ok _ _ _ hc w2 hP sub (ap.get 0 rfl) (ap.get 1 rfl)) (SP.k1 fun v3 => ?_)
 clear hc
 refine go ?_
 refine CP.seq (go ?_)
 refine CP.ci ho (fun ho => ?_) fun ho => ?_
 ·refine go ?_
  obtain rfl := fin ho hr
  exact QE.rt (fun _ h => St.selO [0] rfl rfl (St.addO (slO.nil (kInt .i64) 3) h))
 refine go ?_
 refine SP.lit (k := (kInt .i64)) (xs := [1]) (vs := [.int .i64 1]) (cells := [.int .i64 1]) Tryz.underlying55 inf3 rfl rfl rfl rfl rfl rfl rfl rfl (fun _ ap => ⟨[.int .i64 1], _, rfl, rfl, rfl⟩) rfl rfl rfl (fun v6 => go ?_)
 obtain ⟨t8, hc, ho⟩ := bind_some ho
 refine SP.callKO see (caps := []) _ fn80 rfl rfl rfl rfl (fun w2 hs => slices_Repeat_int_int.ok _ _ _ _ hc w2 (hp w2) (Sub.refl _) (slO.read (St.own 0 rfl see.sub see.dj hs) (Sub.refl _) (Sub.refl _))) (fun v a a2 b ⟨v9, e, h⟩ => ⟨v9, e, (Sep.fcons (fun _ => slO.flip (fun _ _ _ _ h => h)) (fun _ => Sep.fnil)) h⟩) (SP.k1 fun v9 => ?_)
 clear hc
 refine go ?_
 refine CP.seq (go ?_)
 refine SP.val (Val.lenW (fun w2 hw => slO.whole (St.own 2 rfl see.sub see.dj hw)) Tryz.underlying138 rfl) rfl rfl rfl (go ?_)
 obtain rfl := Option.some.inj ho
 refine CP.loop (fun cl1 a w2 => ∃ l32 : List Int, ∃ x34 : Int, ∃ v33 : Value, cl1 ≤ m0 ∧ iter (flow_Times.F l_0) cl1 (.l1 t2 l32 x34) = some r ∧ Env ⟨47, []⟩ [(6, v33), (22, v3), (23, .int .i64 (t2.1.length : Int)), (24, .int .i64 x34)] a ∧ St w em hV [arrP k_arr221 0 tab0] [slO (kInt .i64) 3 v33 l32, slO k_flow_Loop 152 v3 t2.1] w2) m0 (fun a w2 ha hw => ⟨t8, 0, v9, Nat.le_refl _, hr, ha.sub sb, (St.selP [1] rfl (St.selO [0, 2] rfl rfl hw))⟩) ?_
 clear hr
 rintro cl1 a w2 ⟨l32, x34, v33, hc_l1, hi, ha, hw⟩
 obtain ⟨m35, o, hm_m35, ho, hr⟩ := iter_some hi
 refine CP.app ha hw ?_
 clear ha hw a w2 hi
 refine go ?_
 refine CP.seq ?_
 refine CP.ci ho (fun ho => ?_) fun ho => ?_
 ·refine go ?_
  refine CP.seq (go ?_)
  obtain ⟨x37, hx_x37, ho⟩ := elt_bind ho
  refine SP.indexW (fun w2 hw => slO.whole (St.own 1 rfl see.sub see.dj hw)) Tryz.underlying138 sz152 hx_x37.1 hx_x37.2 rfl rfl rfl rfl (fun p36 h_p36 => ?_)
  refine SP.val (Val.loadOA see 1 rfl hx_x37.2 h_p36 (fun _ _ e => e) Tryz.underlying152 rfl sz152 rfl) rfl rfl rfl ?_
  refine SP.alloc (cs := [.int .i64 0, .int .i64 0, .int .i64 0]) inf152 rfl rfl (fun b38 => ?_)
  refine SP.store (v := .agg #[.int .i64 x37.From, .int .i64 x37.To, .int .i64 x37.Turns]) (vs := [.int .i64 x37.From, .int .i64 x37.To, .int .i64 x37.Turns]) 0 (by rfl) sz152 (by rfl) (by rfl) (by rfl) (by rfl) (by rfl) (by rfl) (go ?_)
  obtain rfl := Option.some.inj ho
  refine CP.loop (fun cl2 a w2 => ∃ l45 : List Int, ∃ x47 : Int, ∃ v46 : Value, cl2 ≤ m35 ∧ iter (flow_Times.F l_0) cl2 (.l2 t2 x34 x37 l45 x47) = some r ∧ Env ⟨47, []⟩ [(6, v46), (8, .pointer (some ⟨b38, 0, none⟩)), (9, .int .i64 x47), (22, v3), (23, .int .i64 (t2.1.length : Int)), (24, .int .i64 x34)] a ∧ St w em hV [arrP k_arr221 0 tab0] [boxO b38 [.int .i64 x37.From, .int .i64 x37.To, .int .i64 x37.Turns] 152, slO (kInt .i64) 3 v46 l45, slO k_flow_Loop 152 v3 t2.1] w2) m35 (fun a w2 ha hw => ⟨l32, (IntKind.i64.wrap (x37.From + 1)), v33, Nat.le_refl _, hr, ha.sub sb, hw⟩) ?_
  clear hr
  rintro cl2 a w2 ⟨l45, x47, v46, hc_l2, hi, ha, hw⟩
  obtain ⟨m48, o, hm_m48, ho, hr⟩ := iter_some hi
  refine CP.app ha hw ?_
  clear ha hw a w2 hi
  refine CP.seq (go ?_)
  refine CP.ci ho (fun ho => ?_) fun ho => ?_
  ·refine go ?_
   refine CP.seq (go ?_)
   refine CP.drawA (by kernel_rfl) (fun w2 k h => h.drawn k) ?_
   obtain ⟨x50, hx_x50, ho⟩ := elt_bind ho
   refine DA.ghost (fun w2 hw => let ⟨z, hz⟩ := ixC ((fun w2 hw => slO.whole (St.own 1 rfl see.sub see.dj hw)) w2 hw) hx_x50.1 hx_x50.2; ⟨z, hz, hw⟩) (fun p49 i_p49 => ?_)
   have h_p49 := i_p49.1
   refine DA.ph 0 6 ?_
   refine DT.tk 0 ?_
   refine DT.tk 1 ?_
   refine DT.tv 2 rfl (Val.indexC' i_p49 Tryz.underlying55 sz3 rfl rfl) ?_
   refine DT.tv 3 rfl (Val.loadW1 (off := 0) (k := (kInt .i64)) (fun w2 hw => slO.whole (St.own 1 rfl see.sub see.dj hw)) hx_x50.2 h_p49 (fun _ _ e => by subst e; rfl) Tryz.underlying3 rfl rfl) ?_
   refine DT.tk 4 ?_
   refine DT.tk 5 ?_
   refine DT.next (by kernel_rfl) ?_
   refine DA.one 6 rfl (by kernel_rfl) (go ?_)
   refine QE.atA ?_
   refine DA.one 7 rfl (by kernel_rfl) ?_
   obtain ⟨x52, hx_x52, ho⟩ := elt_bind ho
   refine SP.indexW (fun w2 hw => slO.whole (St.own 1 rfl see.sub see.dj hw)) Tryz.underlying55 sz3 hx_x52.1 hx_x52.2 rfl rfl rfl rfl (fun p51 h_p51 => go ?_)
   refine QE.atA ?_
   refine DA.one 8 rfl (by kernel_rfl) ?_
   refine SP.storeO (z0 := IntKind.i64.wrap (x50 * x37.Turns)) (off := 0) (vs := [.int .i64 (IntKind.i64.wrap (x50 * x37.Turns))]) see 1 rfl hx_x52.2 h_p51 rfl rfl sz3 rfl (fun a cs _ e => by subst e; rfl) rfl rfl rfl (go ?_)
   refine QE.atA ?_
   refine DA.done (by kernel_rfl) (go ?_)
   obtain rfl := Option.some.inj ho
   exact QE.lower m48 (by omega) fun a w2 ha hw => ⟨(l45.set x47.toNat (IntKind.i64.wrap (x50 * x37.Turns))), (IntKind.i64.wrap (x47 + 1)), v46, (by omega), hr, ha.sub sb, hw⟩
  refine go ?_
  obtain rfl := Option.some.inj ho
  exact QE.lower m48 (by omega) fun a w2 ha hw => ⟨l45, (IntKind.i64.wrap (x34 + 1)), v46, (by omega), hr, ha.sub sb, (St.selO [1, 2] rfl rfl hw)⟩
 refine go ?_
 obtain rfl := fin ho hr
 exact QE.rt (fun _ h => St.selO [0] rfl rfl h)
inductive types_Height.S where
  | start
  | l1 (x10 : Int) (x11 : Int)
def types_Height.F (rows_0 : (List types_Row)) : types_Height.S → Option (types_Height.S ⊕ Int)
  | .start => some (.inl (.l1 0 0))
  | .l1 x10 x11 => if x11 < (rows_0.length : Int) then ((elt rows_0 x11).bind fun x15 => some (.inl (.l1 (if (x15.Kinds.length : Int) > x10 then (x15.Kinds.length : Int) else x10) (IntKind.i64.wrap (x11 + 1))))) else (some (.inr x10))
def types_Height.f (rows_0 : (List types_Row)) : Option Int := runF (types_Height.F rows_0) .start
theorem types_Height.ok (rows_0 : (List types_Row)) (v_rows_0 : Value) (r : Int) (H : types_Height.f rows_0 = some r) (w : World) (hV : Hp) (sV : Sub hV (hp w)) (h0 : slR k_types_Row hV v_rows_0 rows_0) :
    Trip Tryz.prog 56 [v_rows_0].toArray em hV w (fun v => HO.pure (v = .int .i64 r)) := by
 refine Trip.go 19 Tryz.func56 sV (aS h0 (All.nil _)) fun see => ?_
 obtain ⟨n0, hi⟩ := runF_iff.1 H
 obtain ⟨m0, o, hm0, ho, hr⟩ := iter_some hi
 clear hi
 refine go ?_
 refine CP.seq (go ?_)
 obtain rfl := Option.some.inj ho
 refine CP.loop (fun cl1 a w2 => ∃ x10 : Int, ∃ x11 : Int, cl1 ≤ m0 ∧ iter (types_Height.F rows_0) cl1 (.l1 x10 x11) = some r ∧ Env ⟨19, []⟩ [(3, .int .i64 x10), (6, v_rows_0), (7, .int .i64 (rows_0.length : Int)), (8, .int .i64 x11)] a ∧ St w em hV [slP k_types_Row v_rows_0 rows_0] [] w2) m0 (fun a w2 ha hw => ⟨0, 0, Nat.le_refl _, hr, ha.sub sb, hw⟩) ?_
 clear hr
 rintro cl1 a w2 ⟨x10, x11, hc_l1, hi, ha, hw⟩
 obtain ⟨m12, o, hm_m12, ho, hr⟩ := iter_some hi
 refine CP.app ha hw ?_
 clear ha hw a w2 hi
 refine go ?_
 refine CP.seq ?_
 refine CP.ci ho (fun ho => ?_) fun ho => ?_
 ·refine go ?_
  refine CP.seq (go ?_)
  obtain ⟨x15, hx, ho⟩ := elt_bind ho
  refine SP.indexP see 0 rfl Tryz.underlying63 sz73 hx.1 hx.2 rfl rfl rfl rfl (fun p13 => ?_)
  clear hx
  refine k_types_Row.load see 0 rfl Tryz.underlying73 rfl sz73 rfl rfl rfl (fun v16 => ?_)
  refine SP.alloc (cs := [.bool false, (.slice none 0 0)]) inf73 rfl rfl (fun b18 => ?_)
  refine SP.have (fun w2 hw => slR.shape (St.pers 0 rfl see.sub see.dj hw)) (fun hs_v16 => ?_)
  refine SP.store (v := .agg #[.bool x15.Reached, v16]) (vs := [.bool x15.Reached, v16]) 0 (by rfl) sz73 (by rfl) (by rfl) (by rfl) (by rfl) (one_cons rfl (one_cons hs_v16 (rfl))) (by rfl) (go ?_)
  refine SP.val (Val.max2 rfl rfl) rfl rfl rfl (go ?_)
  obtain rfl := Option.some.inj ho
  exact QE.lower m12 (by omega) fun a w2 ha hw => ⟨(if (x15.Kinds.length : Int) > x10 then (x15.Kinds.length : Int) else x10), (IntKind.i64.wrap (x11 + 1)), (by omega), hr, ha.sub sb, (St.selP [2] rfl (St.selO [] rfl rfl hw))⟩
 refine go ?_
 obtain rfl := fin ho hr
 exact QE.rt (fun _ h => h)
def cost_sum_high_s2.f (s_0_2 : Int) (s_0_3 : Int) (s_0_4 : Int) (s_0_5 : List Int) (s_0_7 : List Int) (s_0_9 : Int) (s_0_10 : Bool) (s_0_11 : Int) (s_0_12 : Int) (s_0_13 : Int) (s_0_14 : List api_Instr) (s_0_16 : List types_Row) (n_1 : Int) : Option (Int × Int × Int × Int × Bool × Int × Int × Int × (List types_Row)) :=
  some (s_0_2, if n_1 > s_0_3 then n_1 else s_0_3, s_0_4, s_0_9, s_0_10, s_0_11, s_0_12, s_0_13, s_0_16)
theorem cost_sum_high_s2.ok (s_0_2 s_0_3 s_0_4 : Int) (s_0_5 : List Int) (s_0_7 : List Int) (s_0_9 : Int) (s_0_10 : Bool) (s_0_11 s_0_12 s_0_13 : Int) (s_0_14 : List api_Instr) (s_0_16 : List types_Row) (n_1 : Int) (v_s_0_5 v_s_0_7 : Value) (v_s_0_14 v_s_0_16 : Value) (r : Int × Int × Int × Int × Bool × Int × Int × Int × (List types_Row)) (H : cost_sum_high_s2.f s_0_2 s_0_3 s_0_4 s_0_5 s_0_7 s_0_9 s_0_10 s_0_11 s_0_12 s_0_13 s_0_14 s_0_16 n_1 = some r) (w : World) (hV : Hp) (sV : Sub hV (hp w)) (h0 : slR (kInt .u8) hV v_s_0_5 s_0_5) (h1 : slR (kInt .u8) hV v_s_0_7 s_0_7) (h2 : slR k_api_Instr hV v_s_0_14 s_0_14) (h3 : anyP.p hV) (b1 : Nat) (hA : Hp) (sA : Sub hA (hp w)) (dA : Dj hV hA) (hI : (HO.seps [boxO b1 [.int .i64 s_0_2, .int .i64 s_0_3, .int .i64 s_0_4, v_s_0_5, v_s_0_7, .int .u8 s_0_9, .bool s_0_10, .int .i64 s_0_11, .int .i64 s_0_12, .int .i64 s_0_13, v_s_0_14, v_s_0_16] 117, slO k_types_Row 73 v_s_0_16 s_0_16]).p hV hA) :
    Trip Tryz.prog 55 [.pointer (some ⟨b1, 0, none⟩), .int .i64 n_1].toArray hA hV w (fun v => HO.pand (v = .tuple #[]) (HO.seps [HO.ex fun v19 : Value => HO.seps [boxO b1 [.int .i64 r.1, .int .i64 r.2.1, .int .i64 r.2.2.1, v_s_0_5, v_s_0_7, .int .u8 r.2.2.2.1, .bool r.2.2.2.2.1, .int .i64 r.2.2.2.2.2.1, .int .i64 r.2.2.2.2.2.2.1, .int .i64 r.2.2.2.2.2.2.2.1, v_s_0_14, v19] 117, slO k_types_Row 73 v19 r.2.2.2.2.2.2.2.2]])) := by
 have see : Sees w hA hV := ⟨sV, dA⟩
 refine Trip.of (P := Tryz.prog) (n := ⟨15, []⟩) Tryz.func55 rfl ⟨rfl, rfl⟩ rfl (St.beginA (os := [boxO b1 [.int .i64 s_0_2, .int .i64 s_0_3, .int .i64 s_0_4, v_s_0_5, v_s_0_7, .int .u8 s_0_9, .bool s_0_10, .int .i64 s_0_11, .int .i64 s_0_12, .int .i64 s_0_13, v_s_0_14, v_s_0_16] 117, slO k_types_Row 73 v_s_0_16 s_0_16]) sA (aS h0 (aS h1 (aS h2 (All.cons (x := anyP) h3 (All.nil _))))) hI) ?_
 have ho := H
 refine go ?_
 refine SP.val (Val.max2 rfl rfl) rfl rfl rfl (go ?_)
 refine SP.store (v := .int .i64 (if n_1 > s_0_3 then n_1 else s_0_3)) (vs := [.int .i64 (if n_1 > s_0_3 then n_1 else s_0_3)]) 0 (by rfl) sz3 (by rfl) (by rfl) (by rfl) (by rfl) (by rfl) (by rfl) (go ?_)
 obtain rfl := Option.some.inj ho
 exact QE.over (rs := []) (vs := []) Tryz.results55 rfl trivial (fun w2 h => St.done (fun a b p s => ⟨rfl, s⟩) (St.shut v_s_0_16 (St.group [boxO b1 [.int .i64 s_0_2, .int .i64 (if n_1 > s_0_3 then n_1 else s_0_3), .int .i64 s_0_4, v_s_0_5, v_s_0_7, .int .u8 s_0_9, .bool s_0_10, .int .i64 s_0_11, .int .i64 s_0_12, .int .i64 s_0_13, v_s_0_14, v_s_0_16] 117, slO k_types_Row 73 v_s_0_16 s_0_16] (St.selO [0, 1] rfl rfl h))))
def cost_sum_often_s2.f (s_0_2 : Int) (s_0_3 : Int) (s_0_4 : Int) (s_0_5 : List Int) (s_0_7 : List Int) (s_0_9 : Int) (s_0_10 : Bool) (s_0_11 : Int) (s_0_12 : Int) (s_0_13 : Int) (s_0_14 : List api_Instr) (s_0_16 : List types_Row) (times_1 : Int) (fuel_2 : Int) (heap_3 : Int) : Option (Int × Int × Int × Int × Bool × Int × Int × Int × (List types_Row)) :=
  some (IntKind.i64.wrap (s_0_2 + (IntKind.i64.wrap (times_1 * fuel_2))), s_0_3, IntKind.i64.wrap (s_0_4 + (IntKind.i64.wrap (times_1 * heap_3))), s_0_9, s_0_10, s_0_11, s_0_12, s_0_13, s_0_16)
theorem cost_sum_often_s2.ok (s_0_2 s_0_3 s_0_4 : Int) (s_0_5 : List Int) (s_0_7 : List Int) (s_0_9 : Int) (s_0_10 : Bool) (s_0_11 s_0_12 s_0_13 : Int) (s_0_14 : List api_Instr) (s_0_16 : List types_Row) (times_1 fuel_2 heap_3 : Int) (v_s_0_5 v_s_0_7 : Value) (v_s_0_14 v_s_0_16 : Value) (r : Int × Int × Int × Int × Bool × Int × Int × Int × (List types_Row)) (H : cost_sum_often_s2.f s_0_2 s_0_3 s_0_4 s_0_5 s_0_7 s_0_9 s_0_10 s_0_11 s_0_12 s_0_13 s_0_14 s_0_16 times_1 fuel_2 heap_3 = some r) (w : World) (hV : Hp) (sV : Sub hV (hp w)) (h0 : slR (kInt .u8) hV v_s_0_5 s_0_5) (h1 : slR (kInt .u8) hV v_s_0_7 s_0_7) (h2 : slR k_api_Instr hV v_s_0_14 s_0_14) (h3 : anyP.p hV) (b1 : Nat) (hA : Hp) (sA : Sub hA (hp w)) (dA : Dj hV hA) (hI : (HO.seps [boxO b1 [.int .i64 s_0_2, .int .i64 s_0_3, .int .i64 s_0_4, v_s_0_5, v_s_0_7, .int .u8 s_0_9, .bool s_0_10, .int .i64 s_0_11, .int .i64 s_0_12, .int .i64 s_0_13, v_s_0_14, v_s_0_16] 117, slO k_types_Row 73 v_s_0_16 s_0_16]).p hV hA) :
    Trip Tryz.prog 57 [.pointer (some ⟨b1, 0, none⟩), .int .i64 times_1, .int .i64 fuel_2, .int .i64 heap_3].toArray hA hV w (fun v => HO.pand (v = .tuple #[]) (HO.seps [HO.ex fun v19 : Value => HO.seps [boxO b1 [.int .i64 r.1, .int .i64 r.2.1, .int .i64 r.2.2.1, v_s_0_5, v_s_0_7, .int .u8 r.2.2.2.1, .bool r.2.2.2.2.1, .int .i64 r.2.2.2.2.2.1, .int .i64 r.2.2.2.2.2.2.1, .int .i64 r.2.2.2.2.2.2.2.1, v_s_0_14, v19] 117, slO k_types_Row 73 v19 r.2.2.2.2.2.2.2.2]])) := by
 have see : Sees w hA hV := ⟨sV, dA⟩
 refine Trip.of (P := Tryz.prog) (n := ⟨32, []⟩) Tryz.func57 rfl ⟨rfl, rfl⟩ rfl (St.beginA (os := [boxO b1 [.int .i64 s_0_2, .int .i64 s_0_3, .int .i64 s_0_4, v_s_0_5, v_s_0_7, .int .u8 s_0_9, .bool s_0_10, .int .i64 s_0_11, .int .i64 s_0_12, .int .i64 s_0_13, v_s_0_14, v_s_0_16] 117, slO k_types_Row 73 v_s_0_16 s_0_16]) sA (aS h0 (aS h1 (aS h2 (All.cons (x := anyP) h3 (All.nil _))))) hI) ?_
 have ho := H
 refine go ?_
 refine SP.store (v := .int .i64 (IntKind.i64.wrap (s_0_2 + (IntKind.i64.wrap (times_1 * fuel_2))))) (vs := [.int .i64 (IntKind.i64.wrap (s_0_2 + (IntKind.i64.wrap (times_1 * fuel_2))))]) 0 (by rfl) sz3 (by rfl) (by rfl) (by rfl) (by rfl) (by rfl) (by rfl) (go ?_)
 refine SP.store (v := .int .i64 (IntKind.i64.wrap (s_0_4 + (IntKind.i64.wrap (times_1 * heap_3))))) (vs := [.int .i64 (IntKind.i64.wrap (s_0_4 + (IntKind.i64.wrap (times_1 * heap_3))))]) 0 (by rfl) sz3 (by rfl) (by rfl) (by rfl) (by rfl) (by rfl) (by rfl) (go ?_)
 obtain rfl := Option.some.inj ho
 exact QE.over (rs := []) (vs := []) Tryz.results57 rfl trivial (fun w2 h => St.done (fun a b p s => ⟨rfl, s⟩) (St.shut v_s_0_16 (St.group [boxO b1 [.int .i64 (IntKind.i64.wrap (s_0_2 + (IntKind.i64.wrap (times_1 * fuel_2)))), .int .i64 s_0_3, .int .i64 (IntKind.i64.wrap (s_0_4 + (IntKind.i64.wrap (times_1 * heap_3)))), v_s_0_5, v_s_0_7, .int .u8 s_0_9, .bool s_0_10, .int .i64 s_0_11, .int .i64 s_0_12, .int .i64 s_0_13, v_s_0_14, v_s_0_16] 117, slO k_types_Row 73 v_s_0_16 s_0_16] (St.selO [0, 1] rfl rfl h))))
def cost_sum_often_s3.f (s_0_2 : Int) (s_0_3 : Int) (s_0_4 : Int) (s_0_5 : List Int) (s_0_7 : List Int) (s_0_9 : Int) (s_0_10 : Bool) (s_0_11 : Int) (s_0_12 : Int) (s_0_13 : Int) (s_0_14 : List api_Instr) (s_0_16 : List types_Row) (times_1 : Int) (fuel_2 : Int) (heap_3 : Int) : Option (Int × Int × Int × Int × Bool × Int × Int × Int) :=
  some (IntKind.i64.wrap (s_0_2 + (IntKind.i64.wrap (times_1 * fuel_2))), s_0_3, IntKind.i64.wrap (s_0_4 + (IntKind.i64.wrap (times_1 * heap_3))), s_0_9, s_0_10, s_0_11, s_0_12, s_0_13)
theorem cost_sum_often_s3.ok (s_0_2 s_0_3 s_0_4 : Int) (s_0_5 : List Int) (s_0_7 : List Int) (s_0_9 : Int) (s_0_10 : Bool) (s_0_11 s_0_12 s_0_13 : Int) (s_0_14 : List api_Instr) (s_0_16 : List types_Row) (times_1 fuel_2 heap_3 : Int) (v_s_0_5 v_s_0_7 : Value) (v_s_0_14 v_s_0_16 : Value) (r : Int × Int × Int × Int × Bool × Int × Int × Int) (H : cost_sum_often_s3.f s_0_2 s_0_3 s_0_4 s_0_5 s_0_7 s_0_9 s_0_10 s_0_11 s_0_12 s_0_13 s_0_14 s_0_16 times_1 fuel_2 heap_3 = some r) (w : World) (hV : Hp) (sV : Sub hV (hp w)) (h0 : slR (kInt .u8) hV v_s_0_5 s_0_5) (h1 : slR (kInt .u8) hV v_s_0_7 s_0_7) (h2 : slR k_api_Instr hV v_s_0_14 s_0_14) (h3 : slR k_types_Row hV v_s_0_16 s_0_16) (b1 : Nat) (hA : Hp) (sA : Sub hA (hp w)) (dA : Dj hV hA) (hI : (boxO b1 [.int .i64 s_0_2, .int .i64 s_0_3, .int .i64 s_0_4, v_s_0_5, v_s_0_7, .int .u8 s_0_9, .bool s_0_10, .int .i64 s_0_11, .int .i64 s_0_12, .int .i64 s_0_13, v_s_0_14, v_s_0_16] 117).p hV hA) :
    Trip Tryz.prog 57 [.pointer (some ⟨b1, 0, none⟩), .int .i64 times_1, .int .i64 fuel_2, .int .i64 heap_3].toArray hA hV w (fun v => HO.pand (v = .tuple #[]) (HO.seps [boxO b1 [.int .i64 r.1, .int .i64 r.2.1, .int .i64 r.2.2.1, v_s_0_5, v_s_0_7, .int .u8 r.2.2.2.1, .bool r.2.2.2.2.1, .int .i64 r.2.2.2.2.2.1, .int .i64 r.2.2.2.2.2.2.1, .int .i64 r.2.2.2.2.2.2.2, v_s_0_14, v_s_0_16] 117])) := by
 have see : Sees w hA hV := ⟨sV, dA⟩
 refine Trip.of (P := Tryz.prog) (n := ⟨32, []⟩) Tryz.func57 rfl ⟨rfl, rfl⟩ rfl (St.beginA (os := [boxO b1 [.int .i64 s_0_2, .int .i64 s_0_3, .int .i64 s_0_4, v_s_0_5, v_s_0_7, .int .u8 s_0_9, .bool s_0_10, .int .i64 s_0_11, .int .i64 s_0_12, .int .i64 s_0_13, v_s_0_14, v_s_0_16] 117]) sA (aS h0 (aS h1 (aS h2 (aS h3 (All.nil _))))) ⟨hA, em, Dj.em_right _, Sub.refl _, Sub.em _, hI, trivial⟩) ?_
 have ho := H
 refine go ?_
 refine SP.store (v := .int .i64 (IntKind.i64.wrap (s_0_2 + (IntKind.i64.wrap (times_1 * fuel_2))))) (vs := [.int .i64 (IntKind.i64.wrap (s_0_2 + (IntKind.i64.wrap (times_1 * fuel_2))))]) 0 (by rfl) sz3 (by rfl) (by rfl) (by rfl) (by rfl) (by rfl) (by rfl) (go ?_)
 refine SP.store (v := .int .i64 (IntKind.i64.wrap (s_0_4 + (IntKind.i64.wrap (times_1 * heap_3))))) (vs := [.int .i64 (IntKind.i64.wrap (s_0_4 + (IntKind.i64.wrap (times_1 * heap_3))))]) 0 (by rfl) sz3 (by rfl) (by rfl) (by rfl) (by rfl) (by rfl) (by rfl) (go ?_)
 obtain rfl := Option.some.inj ho
 exact QE.over (rs := []) (vs := []) Tryz.results57 rfl trivial (fun w2 h => St.done (fun a b p s => ⟨rfl, s⟩) (St.selO [0] rfl rfl h))
def cost_sum_high_s3.f (s_0_2 : Int) (s_0_3 : Int) (s_0_4 : Int) (s_0_5 : List Int) (s_0_7 : List Int) (s_0_9 : Int) (s_0_10 : Bool) (s_0_11 : Int) (s_0_12 : Int) (s_0_13 : Int) (s_0_14 : List api_Instr) (s_0_16 : List types_Row) (n_1 : Int) : Option (Int × Int × Int × Int × Bool × Int × Int × Int) :=
  some (s_0_2, if n_1 > s_0_3 then n_1 else s_0_3, s_0_4, s_0_9, s_0_10, s_0_11, s_0_12, s_0_13)
theorem cost_sum_high_s3.ok (s_0_2 s_0_3 s_0_4 : Int) (s_0_5 : List Int) (s_0_7 : List Int) (s_0_9 : Int) (s_0_10 : Bool) (s_0_11 s_0_12 s_0_13 : Int) (s_0_14 : List api_Instr) (s_0_16 : List types_Row) (n_1 : Int) (v_s_0_5 v_s_0_7 : Value) (v_s_0_14 v_s_0_16 : Value) (r : Int × Int × Int × Int × Bool × Int × Int × Int) (H : cost_sum_high_s3.f s_0_2 s_0_3 s_0_4 s_0_5 s_0_7 s_0_9 s_0_10 s_0_11 s_0_12 s_0_13 s_0_14 s_0_16 n_1 = some r) (w : World) (hV : Hp) (sV : Sub hV (hp w)) (h0 : slR (kInt .u8) hV v_s_0_5 s_0_5) (h1 : slR (kInt .u8) hV v_s_0_7 s_0_7) (h2 : slR k_api_Instr hV v_s_0_14 s_0_14) (h3 : slR k_types_Row hV v_s_0_16 s_0_16) (b1 : Nat) (hA : Hp) (sA : Sub hA (hp w)) (dA : Dj hV hA) (hI : (boxO b1 [.int .i64 s_0_2, .int .i64 s_0_3, .int .i64 s_0_4, v_s_0_5, v_s_0_7, .int .u8 s_0_9, .bool s_0_10, .int .i64 s_0_11, .int .i64 s_0_12, .int .i64 s_0_13, v_s_0_14, v_s_0_16] 117).p hV hA) :
    Trip Tryz.prog 55 [.pointer (some ⟨b1, 0, none⟩), .int .i64 n_1].toArray hA hV w (fun v => HO.pand (v = .tuple #[]) (HO.seps [boxO b1 [.int .i64 r.1, .int .i64 r.2.1, .int .i64 r.2.2.1, v_s_0_5, v_s_0_7, .int .u8 r.2.2.2.1, .bool r.2.2.2.2.1, .int .i64 r.2.2.2.2.2.1, .int .i64 r.2.2.2.2.2.2.1, .int .i64 r.2.2.2.2.2.2.2, v_s_0_14, v_s_0_16] 117])) := by
 have see : Sees w hA hV := ⟨sV, dA⟩
 refine Trip.of (P := Tryz.prog) (n := ⟨15, []⟩) Tryz.func55 rfl ⟨rfl, rfl⟩ rfl (St.beginA (os := [boxO b1 [.int .i64 s_0_2, .int .i64 s_0_3, .int .i64 s_0_4, v_s_0_5, v_s_0_7, .int .u8 s_0_9, .bool s_0_10, .int .i64 s_0_11, .int .i64 s_0_12, .int .i64 s_0_13, v_s_0_14, v_s_0_16] 117]) sA (aS h0 (aS h1 (aS h2 (aS h3 (All.nil _))))) ⟨hA, em, Dj.em_right _, Sub.refl _, Sub.em _, hI, trivial⟩) ?_
 have ho := H
 refine go ?_
 refine SP.val (Val.max2 rfl rfl) rfl rfl rfl (go ?_)
 refine SP.store (v := .int .i64 (if n_1 > s_0_3 then n_1 else s_0_3)) (vs := [.int .i64 (if n_1 > s_0_3 then n_1 else s_0_3)]) 0 (by rfl) sz3 (by rfl) (by rfl) (by rfl) (by rfl) (by rfl) (by rfl) (go ?_)
 obtain rfl := Option.some.inj ho
 exact QE.over (rs := []) (vs := []) Tryz.results55 rfl trivial (fun w2 h => St.done (fun a b p s => ⟨rfl, s⟩) (St.selO [0] rfl rfl h))
def cost_taker_call_s3.f (t_0_2 : Int) (t_0_3 : Int) (t_0_4 : Int) (t_0_5 : List Int) (t_0_7 : List Int) (t_0_9 : Int) (t_0_10 : Bool) (t_0_11 : Int) (t_0_12 : Int) (t_0_13 : Int) (t_0_14 : List api_Instr) (t_0_16 : List types_Row) (a1 : Int) (times_2 : Int) (other_3 : api_Method) (known_4 : api_Cert) : Option (Int × Int × Int × Int × Bool × Int × Int × Int) :=
  (cost_sum_often_s3.f t_0_2 t_0_3 t_0_4 t_0_5 t_0_7 t_0_9 t_0_10 t_0_11 t_0_12 t_0_13 t_0_14 t_0_16 times_2 known_4.Fuel known_4.Heap).bind fun t25 => (elt t_0_16 a1).bind fun x28 => if x28.Reached = true then ((cost_sum_high_s3.f t25.1 t25.2.1 t25.2.2.1 t_0_5 t_0_7 t25.2.2.2.1 t25.2.2.2.2.1 t25.2.2.2.2.2.1 t25.2.2.2.2.2.2.1 t25.2.2.2.2.2.2.2 t_0_14 t_0_16 (IntKind.i64.wrap ((IntKind.i64.wrap ((IntKind.i64.wrap ((IntKind.i64.wrap ((t_0_5.length : Int) + (t_0_7.length : Int))) + (x28.Kinds.length : Int))) - (other_3.Args.length : Int))) + known_4.Stack))).bind fun t33 => some (t33.1, t33.2.1, t33.2.2.1, t33.2.2.2.1, t33.2.2.2.2.1, t33.2.2.2.2.2.1, t33.2.2.2.2.2.2.1, t33.2.2.2.2.2.2.2)) else (some (t25.1, t25.2.1, t25.2.2.1, t25.2.2.2.1, t25.2.2.2.2.1, t25.2.2.2.2.2.1, t25.2.2.2.2.2.2.1, t25.2.2.2.2.2.2.2))
theorem cost_taker_call_s3.ok (t_0_2 t_0_3 t_0_4 : Int) (t_0_5 : List Int) (t_0_7 : List Int) (t_0_9 : Int) (t_0_10 : Bool) (t_0_11 t_0_12 t_0_13 : Int) (t_0_14 : List api_Instr) (t_0_16 : List types_Row) (a1 times_2 : Int) (other_3 : api_Method) (known_4 : api_Cert) (v_t_0_5 v_t_0_7 : Value) (v_t_0_14 v_t_0_16 : Value) (v_other_3_Args v_other_3_Locals v_other_3_Code : Value) (r : Int × Int × Int × Int × Bool × Int × Int × Int) (H : cost_taker_call_s3.f t_0_2 t_0_3 t_0_4 t_0_5 t_0_7 t_0_9 t_0_10 t_0_11 t_0_12 t_0_13 t_0_14 t_0_16 a1 times_2 other_3 known_4 = some r) (w : World) (hV : Hp) (sV : Sub hV (hp w)) (h0 : slR (kInt .u8) hV v_t_0_5 t_0_5) (h1 : slR (kInt .u8) hV v_t_0_7 t_0_7) (h2 : slR k_api_Instr hV v_t_0_14 t_0_14) (h3 : slR k_types_Row hV v_t_0_16 t_0_16) (h4 : slR (kInt .u8) hV v_other_3_Args other_3.Args) (h5 : slR (kInt .u8) hV v_other_3_Locals other_3.Locals) (h6 : slR k_api_Instr hV v_other_3_Code other_3.Code) (b1 : Nat) (hA : Hp) (sA : Sub hA (hp w)) (dA : Dj hV hA) (hI : (boxO b1 [.int .i64 t_0_2, .int .i64 t_0_3, .int .i64 t_0_4, v_t_0_5, v_t_0_7, .int .u8 t_0_9, .bool t_0_10, .int .i64 t_0_11, .int .i64 t_0_12, .int .i64 t_0_13, v_t_0_14, v_t_0_16] 117).p hV hA) :
    Trip Tryz.prog 58 [.pointer (some ⟨b1, 0, none⟩), .int .i64 a1, .int .i64 times_2, .agg #[v_other_3_Args, v_other_3_Locals, .int .u8 other_3.Result, .bool other_3.Reads, .int .i64 other_3.Fuel, .int .i64 other_3.Stack, .int .i64 other_3.Heap, v_other_3_Code], .agg #[.int .i64 known_4.Fuel, .int .i64 known_4.Stack, .int .i64 known_4.Heap]].toArray hA hV w (fun v => HO.pand (v = .tuple #[]) (HO.seps [boxO b1 [.int .i64 r.1, .int .i64 r.2.1, .int .i64 r.2.2.1, v_t_0_5, v_t_0_7, .int .u8 r.2.2.2.1, .bool r.2.2.2.2.1, .int .i64 r.2.2.2.2.2.1, .int .i64 r.2.2.2.2.2.2.1, .int .i64 r.2.2.2.2.2.2.2, v_t_0_14, v_t_0_16] 117])) := by
 have see : Sees w hA hV := ⟨sV, dA⟩
 refine Trip.of (P := Tryz.prog) (n := ⟨57, []⟩) Tryz.func58 rfl ⟨rfl, rfl⟩ rfl (St.beginA (os := [boxO b1 [.int .i64 t_0_2, .int .i64 t_0_3, .int .i64 t_0_4, v_t_0_5, v_t_0_7, .int .u8 t_0_9, .bool t_0_10, .int .i64 t_0_11, .int .i64 t_0_12, .int .i64 t_0_13, v_t_0_14, v_t_0_16] 117]) sA (aS h0 (aS h1 (aS h2 (aS h3 (aS h4 (aS h5 (aS h6 (All.nil _)))))))) ⟨hA, em, Dj.em_right _, Sub.refl _, Sub.em _, hI, trivial⟩) ?_
 have ho := H
 refine go ?_
 refine SP.box rfl rfl rfl rfl fun b21 => ?_
 refine SP.box rfl rfl rfl rfl fun b23 => go ?_
 refine CP.seq ?_
 refine CP.drawA (by kernel_rfl) (fun w2 k h => h.drawn k) ?_
 refine DA.ph 0 8 ?_
 refine DT.tk 0 ?_
 refine DT.tk 1 ?_
 refine DT.tk 2 ?_
 refine DT.tk 3 ?_
 refine DT.tk 4 ?_
 refine DT.tk 5 ?_
 refine DT.tk 6 ?_
 refine DT.tk 7 ?_
 refine DT.next (by kernel_rfl) ?_
 refine DA.one 8 rfl (by kernel_rfl) ?_
 refine SP.imp (fun w2 hw => St.selO [2, 0, 1] rfl rfl hw) ?_
 obtain ⟨t25, hc, ho⟩ := bind_some ho
 refine SP.callA see (caps := []) _ fn57 rfl rfl rfl rfl (fun w2 hP h1 sub s1 d1 ap hI => cost_sum_often_s3.ok _ _ _ _ _ _ _ _ _ _ _ _ _ _ _ _ _ _ _ _ hc w2 hP sub (ap.get 0 rfl) (ap.get 1 rfl) (ap.get 2 rfl) (ap.get 3 rfl) _ h1 s1 d1 hI) (SP.k0 ?_)
 clear hc
 refine go ?_
 refine QE.atA ?_
 refine DA.done (by kernel_rfl) (go ?_)
 obtain ⟨x28, hx, ho⟩ := elt_bind ho
 refine SP.indexP see 3 rfl Tryz.underlying63 sz73 hx.1 hx.2 rfl rfl rfl rfl (fun p26 => ?_)
 clear hx
 refine k_types_Row.load see 0 rfl Tryz.underlying73 rfl sz73 rfl rfl rfl (fun v29 => ?_)
 refine SP.alloc (cs := [.bool false, (.slice none 0 0)]) inf73 rfl rfl (fun b31 => ?_)
 refine SP.have (fun w2 hw => slR.shape (St.pers 0 rfl see.sub see.dj hw)) (fun hs_v29 => ?_)
 refine SP.store (v := .agg #[.bool x28.Reached, v29]) (vs := [.bool x28.Reached, v29]) 0 (by rfl) sz73 (by rfl) (by rfl) (by rfl) (by rfl) (one_cons rfl (one_cons hs_v29 (rfl))) (by rfl) (go ?_)
 refine CP.cb ho (fun ho => ?_) fun ho => ?_
 ·refine CP.drawA (by kernel_rfl) (fun w2 k h => h.drawn k) ?_
  refine DA.ph 0 27 ?_
  refine DT.tk 0 ?_
  refine DT.tk 1 ?_
  refine DT.tk 2 ?_
  refine DT.tk 3 ?_
  refine DT.tk 4 ?_
  refine DT.tk 5 ?_
  refine DT.tk 6 ?_
  refine DT.tk 7 ?_
  refine DT.tk 8 ?_
  refine DT.tk 9 ?_
  refine DT.tk 10 ?_
  refine DT.tk 11 ?_
  refine DT.tk 12 ?_
  refine DT.tk 13 ?_
  refine DT.tk 14 ?_
  refine DT.tk 15 ?_
  refine DT.tk 16 ?_
  refine DT.tk 17 ?_
  refine DT.tk 18 ?_
  refine DT.tk 19 ?_
  refine DT.tk 20 ?_
  refine DT.tk 21 ?_
  refine DT.tk 22 ?_
  refine DT.tk 23 ?_
  refine DT.tk 24 ?_
  refine DT.tk 25 ?_
  refine DT.tk 26 ?_
  refine DT.next (by kernel_rfl) ?_
  refine DA.one 27 rfl (by kernel_rfl) ?_
  refine SP.imp (fun w2 hw => St.selO [1, 0, 2, 3] rfl rfl hw) ?_
  obtain ⟨t33, hc, ho⟩ := bind_some ho
  refine SP.callA see (caps := []) _ fn55 rfl rfl rfl rfl (fun w2 hP h1 sub s1 d1 ap hI => cost_sum_high_s3.ok _ _ _ _ _ _ _ _ _ _ _ _ _ _ _ _ _ _ hc w2 hP sub (ap.get 2 rfl) (ap.get 3 rfl) (ap.get 4 rfl) (ap.get 5 rfl) _ h1 s1 d1 hI) (SP.k0 ?_)
  clear hc
  refine go ?_
  refine QE.atA ?_
  refine DA.done (by kernel_rfl) ?_
  obtain rfl := Option.some.inj ho
  exact QE.over (rs := []) (vs := []) Tryz.results58 rfl trivial (fun w2 h => St.done (fun a b p s => ⟨rfl, s⟩) (St.selO [0] rfl rfl h))
 refine go ?_
 obtain rfl := Option.some.inj ho
 exact QE.over (rs := []) (vs := []) Tryz.results58 rfl trivial (fun w2 h => St.done (fun a b p s => ⟨rfl, s⟩) (St.selO [1] rfl rfl h))
inductive cost_one.S where
  | start
  | l1 (x11 : api_Method) (t23 : (List Int) × Int) (x125 : Int) (x126 : Int) (x127 : Int) (x128 : Int) (x129 : Int) (b130 : Bool) (x131 : Int) (x132 : Int) (x133 : Int) (l135 : List types_Row)
def cost_one.j1 (m_0 : api_Module) (k_1 : Int) (known_2 : (List api_Cert)) (x11 : api_Method) (t23 : (List Int) × Int) (x125 : Int) (l135 : List types_Row) (x169 : Int) (x170 : Int) (x171 : Int) (x172 : Int) (b173 : Bool) (x174 : Int) (x175 : Int) (x176 : Int) : Option (cost_one.S ⊕ api_Cert) :=
  some (.inl (.l1 x11 t23 (IntKind.i64.wrap (x125 + 1)) x169 x170 x171 x172 b173 x174 x175 x176 l135))
def cost_one.j2 (m_0 : api_Module) (k_1 : Int) (known_2 : (List api_Cert)) (x11 : api_Method) (t23 : (List Int) × Int) (x125 : Int) (x126 : Int) (x127 : Int) (x128 : Int) (x129 : Int) (b130 : Bool) (x131 : Int) (x132 : Int) (x133 : Int) (l135 : List types_Row) (x140 : api_Instr) (x143 : Int) : Option (cost_one.S ⊕ api_Cert) :=
  (elt t23.1 x125).bind fun x147 => (cost_sum_often_s3.f x126 x127 x128 x11.Args x11.Locals x129 b130 x131 x132 x133 x11.Code l135 x147 1 x143).bind fun t149 => if x140.Op = 30 then ((elt t23.1 x125).bind fun x152 => (elt m_0.Methods x140.A).bind fun x156 => (elt known_2 x140.A).bind fun x166 => (cost_taker_call_s3.f t149.1 t149.2.1 t149.2.2.1 x11.Args x11.Locals t149.2.2.2.1 t149.2.2.2.2.1 t149.2.2.2.2.2.1 t149.2.2.2.2.2.2.1 t149.2.2.2.2.2.2.2 x11.Code l135 x125 x152 x156 x166).bind fun t168 => cost_one.j1 m_0 k_1 known_2 x11 t23 x125 l135 t168.1 t168.2.1 t168.2.2.1 t168.2.2.2.1 t168.2.2.2.2.1 t168.2.2.2.2.2.1 t168.2.2.2.2.2.2.1 t168.2.2.2.2.2.2.2) else (cost_one.j1 m_0 k_1 known_2 x11 t23 x125 l135 t149.1 t149.2.1 t149.2.2.1 t149.2.2.2.1 t149.2.2.2.2.1 t149.2.2.2.2.2.1 t149.2.2.2.2.2.2.1 t149.2.2.2.2.2.2.2)
def cost_one.F (m_0 : api_Module) (k_1 : Int) (known_2 : (List api_Cert)) : cost_one.S → Option (cost_one.S ⊕ api_Cert)
  | .start => (elt m_0.Methods k_1).bind fun x11 => (types_Rows.f m_0 k_1).bind fun t20 => (flow_Times.f x11.Code).bind fun t23 => (types_Height.f t20.1).bind fun t28 => (cost_sum_high_s2.f 0 0 0 x11.Args x11.Locals x11.Result x11.Reads x11.Fuel x11.Stack x11.Heap x11.Code t20.1 (IntKind.i64.wrap ((IntKind.i64.wrap ((x11.Args.length : Int) + (x11.Locals.length : Int))) + t28))).bind fun t30 => some (.inl (.l1 x11 t23 0 t30.1 t30.2.1 t30.2.2.1 t30.2.2.2.1 t30.2.2.2.2.1 t30.2.2.2.2.2.1 t30.2.2.2.2.2.2.1 t30.2.2.2.2.2.2.2.1 t30.2.2.2.2.2.2.2.2))
  | .l1 x11 t23 x125 x126 x127 x128 x129 b130 x131 x132 x133 l135 => if x125 < (x11.Code.length : Int) then ((elt x11.Code x125).bind fun x140 => if x140.Op = 22 then (cost_one.j2 m_0 k_1 known_2 x11 t23 x125 x126 x127 x128 x129 b130 x131 x132 x133 l135 x140 x140.A) else (cost_one.j2 m_0 k_1 known_2 x11 t23 x125 x126 x127 x128 x129 b130 x131 x132 x133 l135 x140 0)) else (some (.inr (⟨x126, x127, x128⟩ : api_Cert)))
def cost_one.f (m_0 : api_Module) (k_1 : Int) (known_2 : (List api_Cert)) : Option api_Cert := runF (cost_one.F m_0 k_1 known_2) .start
theorem cost_one.ok (m_0 : api_Module) (k_1 : Int) (known_2 : (List api_Cert)) (v_m_0_Globals v_m_0_Pool : Value) (v_m_0_Methods v_known_2 : Value)  (r : api_Cert) (H : cost_one.f m_0 k_1 known_2 = some r) (w : World) (hV : Hp) (sV : Sub hV (hp w)) (h0 : slR k_api_Value hV v_m_0_Globals m_0.Globals) (h1 : slR k_api_Value hV v_m_0_Pool m_0.Pool) (h2 : slR k_api_Method hV v_m_0_Methods m_0.Methods) (h3 : slR k_api_Cert hV v_known_2 known_2) (h4 : (arrP k_arr221 0 tab0).p hV) :
    Trip Tryz.prog 29 [.agg #[v_m_0_Globals, v_m_0_Pool, v_m_0_Methods, .int .i64 m_0.Migrate], .int .i64 k_1, v_known_2].toArray em hV w (fun v => HO.pure (v = .agg #[.int .i64 r.Fuel, .int .i64 r.Stack, .int .i64 r.Heap])) := by
 refine Trip.go 100 Tryz.func29 sV (aS h0 (aS h1 (aS h2 (aS h3 (All.cons (x := arrP k_arr221 0 tab0) h4 (All.nil _)))))) fun see => ?_
 obtain ⟨n0, hi⟩ := runF_iff.1 H
 obtain ⟨m0, o, hm0, ho, hr⟩ := iter_some hi
 clear hi
 refine go ?_
 refine SP.box rfl rfl rfl rfl fun b5 => ?_
 refine SP.alloc (cs := [.int .i64 0, .int .i64 0, .int .i64 0]) inf36 rfl rfl (fun b7 => go ?_)
 obtain ⟨x11, hx, ho⟩ := elt_bind ho
 refine SP.indexP see 2 rfl Tryz.underlying23 sz41 hx.1 hx.2 rfl rfl rfl rfl (fun p9 => ?_)
 clear hx
 refine k_api_Method.load see 0 rfl Tryz.underlying41 rfl sz41 rfl rfl rfl (fun v12 v14 v16 => ?_)
 refine SP.alloc (cs := [(.slice none 0 0), (.slice none 0 0), .int .u8 0, .bool false, .int .i64 0, .int .i64 0, .int .i64 0, (.slice none 0 0)]) inf41 rfl rfl (fun b18 => ?_)
 refine SP.have (fun w2 hw => slR.shape (St.pers 0 rfl see.sub see.dj hw)) (fun hs_v12 => ?_)
 refine SP.have (fun w2 hw => slR.shape (St.pers 1 rfl see.sub see.dj hw)) (fun hs_v14 => ?_)
 refine SP.have (fun w2 hw => slR.shape (St.pers 2 rfl see.sub see.dj hw)) (fun hs_v16 => ?_)
 refine SP.store (v := .agg #[v12, v14, .int .u8 x11.Result, .bool x11.Reads, .int .i64 x11.Fuel, .int .i64 x11.Stack, .int .i64 x11.Heap, v16]) (vs := [v12, v14, .int .u8 x11.Result, .bool x11.Reads, .int .i64 x11.Fuel, .int .i64 x11.Stack, .int .i64 x11.Heap, v16]) 0 (by rfl) sz41 (by rfl) (by rfl) (by rfl) (by rfl) (one_cons hs_v12 (one_cons hs_v14 (one_cons rfl (one_cons rfl (one_cons rfl (one_cons rfl (one_cons rfl (one_cons hs_v16 (rfl))))))))) (by rfl) (go ?_)
 refine SP.val (Val.loadA 2 rfl Tryz.underlying25 rfl sz25 rfl rfl rfl) rfl rfl rfl (go ?_)
 obtain ⟨t20, hc, ho⟩ := bind_some ho
 refine SP.callK see (caps := []) _ fn22 rfl rfl rfl rfl (fun w2 hP hs sub ap => types_Rows.ok _ _ _ _ _ _ hc w2 hP sub (ap.get 4 rfl) (ap.get 5 rfl) (ap.get 6 rfl) (ap.get 8 rfl)) (SP.k1 fun v21 => ?_)
 clear hc
 refine go ?_
 obtain ⟨t23, hc, ho⟩ := bind_some ho
 refine SP.callK see (caps := []) _ fn54 rfl rfl rfl rfl (fun w2 hP hs sub ap => flow_Times.ok _ _ _ hc w2 hP sub (ap.get 2 rfl) (ap.get 8 rfl)) (SP.k1 fun v24 => ?_)
 clear hc
 refine go ?_
 refine SP.val (Val.loadA 2 rfl Tryz.underlying41 rfl sz41 rfl rfl rfl) rfl rfl rfl (go ?_)
 refine SP.have (fun w2 hw => slO.shape (St.own 1 rfl see.sub see.dj hw)) (fun hs_v21 => ?_)
 refine SP.val (Val.buildC (us := [(1, .agg #[v12, v14, .int .u8 x11.Result, .bool x11.Reads, .int .i64 x11.Fuel, .int .i64 x11.Stack, .int .i64 x11.Heap, v16]), (2, v21)]) (ucs := [(1, [v12, v14, .int .u8 x11.Result, .bool x11.Reads, .int .i64 x11.Fuel, .int .i64 x11.Stack, .int .i64 x11.Heap, v16]), (2, [v21])]) (cs := [.int .i64 0, .int .i64 0, .int .i64 0, v12, v14, .int .u8 x11.Result, .bool x11.Reads, .int .i64 x11.Fuel, .int .i64 x11.Stack, .int .i64 x11.Heap, v16, v21]) bt117 rfl rfl ⟨rfl, rfl, ⟨rfl, one_cells hs_v21, trivial⟩⟩ (by rfl)) rfl rfl rfl ?_
 refine SP.box rfl rfl rfl rfl fun b26 => go ?_
 refine CP.seq ?_
 refine CP.drawA (by kernel_rfl) (fun w2 k h => h.drawn k) ?_
 obtain ⟨t28, hc29, ho⟩ := bind_some ho
 refine DA.ph 0 13 ?_
 refine DT.tk 0 ?_
 refine DT.tk 1 ?_
 refine DT.tk 2 ?_
 refine DT.tk 3 ?_
 refine DT.tk 4 ?_
 refine DT.tk 5 ?_
 refine DT.tk 6 ?_
 refine DT.tk 7 ?_
 refine DT.tk 8 ?_
 refine DT.tk 9 ?_
 refine DT.tk 10 ?_
 refine DT.one 11 rfl (by kernel_rfl) rfl ?_
 refine SP.callVO see (caps := []) (.int .i64 t28) fn56 rfl rfl rfl rfl (fun w2 hs => types_Height.ok t20.1 _ _ hc29 w2 (hp w2) (Sub.refl _) (slO.read (St.own 2 rfl see.sub see.dj hs) (Sub.refl _) (Sub.refl _))) (go ?_)
 refine QE.atT (fun w2 hw => hw) ?_
 refine DT.tk 12 ?_
 refine DT.next (by kernel_rfl) ?_
 refine DA.one 13 rfl (by kernel_rfl) ?_
 refine SP.imp (fun w2 hw => St.selO [0, 2, 1, 3, 4, 5] rfl rfl hw) ?_
 refine SP.imp (fun w2 hw => St.group [boxO b26 [.int .i64 0, .int .i64 0, .int .i64 0, v12, v14, .int .u8 x11.Result, .bool x11.Reads, .int .i64 x11.Fuel, .int .i64 x11.Stack, .int .i64 x11.Heap, v16, v21] 117, slO k_types_Row 73 v21 t20.1] hw) ?_
 obtain ⟨t30, hc, ho⟩ := bind_some ho
 refine SP.callA see (caps := []) _ fn55 rfl rfl rfl rfl (fun w2 hP h1 sub s1 d1 ap hI => cost_sum_high_s2.ok _ _ _ _ _ _ _ _ _ _ _ _ _ _ _ _ v21 _ hc w2 hP sub (ap.get 0 rfl) (ap.get 1 rfl) (ap.get 2 rfl) trivial _ h1 s1 d1 hI) (SP.k0 ?_)
 refine SP.ex (fun w2 h => St.open h) (fun v32 => ?_)
 refine SP.imp (fun w2 h => St.seps h) ?_
 clear hc
 refine go ?_
 refine QE.atA ?_
 refine DA.done (by kernel_rfl) (go ?_)
 refine CP.seq (go ?_)
 refine CP.freezeS see 2 rfl ?_
 obtain rfl := Option.some.inj ho
 refine CP.loop (fun cl1 a w2 => ∃ x125 : Int, ∃ x126 : Int, ∃ x127 : Int, ∃ x128 : Int, ∃ x129 : Int, ∃ b130 : Bool, ∃ x131 : Int, ∃ x132 : Int, ∃ x133 : Int, ∃ l135 : List types_Row, ∃ v136 : Value, cl1 ≤ m0 ∧ iter (cost_one.F m_0 k_1 known_2) cl1 (.l1 x11 t23 x125 x126 x127 x128 x129 b130 x131 x132 x133 l135) = some r ∧ Env ⟨100, []⟩ [(2, v_known_2), (3, .pointer (some ⟨b5, 0, none⟩)), (6, .pointer (some ⟨b7, 0, none⟩)), (10, v24), (12, .pointer (some ⟨b26, 0, none⟩)), (52, v16), (53, .int .i64 (x11.Code.length : Int)), (54, .int .i64 x125)] a ∧ St w em hV [slP k_types_Row v136 l135, slP (kInt .i64) v24 t23.1, slP (kInt .u8) v12 x11.Args, slP (kInt .u8) v14 x11.Locals, slP k_api_Instr v16 x11.Code, slP k_api_Value v_m_0_Globals m_0.Globals, slP k_api_Value v_m_0_Pool m_0.Pool, slP k_api_Method v_m_0_Methods m_0.Methods, slP k_api_Cert v_known_2 known_2, arrP k_arr221 0 tab0] [boxO b26 [.int .i64 x126, .int .i64 x127, .int .i64 x128, v12, v14, .int .u8 x129, .bool b130, .int .i64 x131, .int .i64 x132, .int .i64 x133, v16, v136] 117, boxO b7 [.int .i64 0, .int .i64 0, .int .i64 0] 36, boxO b5 [v_m_0_Globals, v_m_0_Pool, v_m_0_Methods, .int .i64 m_0.Migrate] 25] w2) m0 (fun a w2 ha hw => ⟨0, t30.1, t30.2.1, t30.2.2.1, t30.2.2.2.1, t30.2.2.2.2.1, t30.2.2.2.2.2.1, t30.2.2.2.2.2.2.1, t30.2.2.2.2.2.2.2.1, t30.2.2.2.2.2.2.2.2, v32, Nat.le_refl _, hr, ha.sub sb, (St.selP [0, 1, 2, 3, 4, 6, 7, 8, 9, 10] rfl (St.selO [0, 2, 3] rfl rfl (St.freezeS hw 1 rfl see)))⟩) ?_
 clear hr
 rintro cl1 a w2 ⟨x125, x126, x127, x128, x129, b130, x131, x132, x133, l135, v136, hc_l1, hi, ha, hw⟩
 obtain ⟨m137, o, hm_m137, ho, hr⟩ := iter_some hi
 refine CP.app ha hw ?_
 clear ha hw a w2 hi
 refine go ?_
 refine CP.seq ?_
 refine CP.ci ho (fun ho => ?_) fun ho => ?_
 ·refine go ?_
  refine CP.join (fun a w2 => ∃ x169 : Int, ∃ x170 : Int, ∃ x171 : Int, ∃ x172 : Int, ∃ b173 : Bool, ∃ x174 : Int, ∃ x175 : Int, ∃ x176 : Int, ∃ (m177 : Nat) (o : (cost_one.S ⊕ api_Cert)), m177 ≤ m137 ∧ cost_one.j1 m_0 k_1 known_2 x11 t23 x125 l135 x169 x170 x171 x172 b173 x174 x175 x176 = some o ∧ next (cost_one.F m_0 k_1 known_2) m177 o = some r ∧ Env ⟨100, []⟩ [(2, v_known_2), (3, .pointer (some ⟨b5, 0, none⟩)), (6, .pointer (some ⟨b7, 0, none⟩)), (10, v24), (12, .pointer (some ⟨b26, 0, none⟩)), (52, v16), (53, .int .i64 (x11.Code.length : Int)), (54, .int .i64 x125)] a ∧ St w em hV [slP k_types_Row v136 l135, slP (kInt .i64) v24 t23.1, slP (kInt .u8) v12 x11.Args, slP (kInt .u8) v14 x11.Locals, slP k_api_Instr v16 x11.Code, slP k_api_Value v_m_0_Globals m_0.Globals, slP k_api_Value v_m_0_Pool m_0.Pool, slP k_api_Method v_m_0_Methods m_0.Methods, slP k_api_Cert v_known_2 known_2, arrP k_arr221 0 tab0] [boxO b26 [.int .i64 x169, .int .i64 x170, .int .i64 x171, v12, v14, .int .u8 x172, .bool b173, .int .i64 x174, .int .i64 x175, .int .i64 x176, v16, v136] 117, boxO b7 [.int .i64 0, .int .i64 0, .int .i64 0] 36, boxO b5 [v_m_0_Globals, v_m_0_Pool, v_m_0_Methods, .int .i64 m_0.Migrate] 25] w2) ?_ ?_
  ·rintro a w2 ⟨x169, x170, x171, x172, b173, x174, x175, x176, m177, o, hm_m177, ho, hr, ha, hw⟩
   refine CP.app ha hw ?_
   clear ha hw a w2
   refine go ?_
   obtain rfl := Option.some.inj ho
   exact QE.lower m177 (by omega) fun a w2 ha hw => ⟨(IntKind.i64.wrap (x125 + 1)), x169, x170, x171, x172, b173, x174, x175, x176, l135, v136, (by omega), hr, ha.sub sb, hw⟩
  refine go ?_
  obtain ⟨x140, hx, ho⟩ := elt_bind ho
  refine SP.indexP see 4 rfl Tryz.underlying39 sz71 hx.1 hx.2 rfl rfl rfl rfl (fun p138 => ?_)
  clear hx
  refine k_api_Instr.load see 0 rfl Tryz.underlying71 rfl sz71 rfl rfl rfl ?_
  refine SP.alloc (cs := [.int .u8 0, .int .i64 0, .int .i64 0]) inf71 rfl rfl (fun b141 => go ?_)
  refine SP.store (v := .agg #[.int .u8 x140.Op, .int .i64 x140.A, .int .i64 x140.B]) (vs := [.int .u8 x140.Op, .int .i64 x140.A, .int .i64 x140.B]) 0 (by rfl) sz71 (by rfl) (by rfl) (by rfl) (by rfl) (by rfl) (by rfl) (go ?_)
  refine CP.join (fun a w2 => ∃ x143 : Int, ∃ (m144 : Nat) (o : (cost_one.S ⊕ api_Cert)), m144 ≤ m137 ∧ cost_one.j2 m_0 k_1 known_2 x11 t23 x125 x126 x127 x128 x129 b130 x131 x132 x133 l135 x140 x143 = some o ∧ next (cost_one.F m_0 k_1 known_2) m144 o = some r ∧ Env ⟨100, []⟩ [(2, v_known_2), (3, .pointer (some ⟨b5, 0, none⟩)), (6, .pointer (some ⟨b7, 0, none⟩)), (10, v24), (12, .pointer (some ⟨b26, 0, none⟩)), (13, .int .i64 x125), (14, .pointer (some ⟨b141, 0, none⟩)), (15, .int .i64 x143), (52, v16), (53, .int .i64 (x11.Code.length : Int)), (54, .int .i64 x125)] a ∧ St w em hV [slP k_types_Row v136 l135, slP (kInt .i64) v24 t23.1, slP (kInt .u8) v12 x11.Args, slP (kInt .u8) v14 x11.Locals, slP k_api_Instr v16 x11.Code, slP k_api_Value v_m_0_Globals m_0.Globals, slP k_api_Value v_m_0_Pool m_0.Pool, slP k_api_Method v_m_0_Methods m_0.Methods, slP k_api_Cert v_known_2 known_2, arrP k_arr221 0 tab0] [boxO b141 [.int .u8 x140.Op, .int .i64 x140.A, .int .i64 x140.B] 71, boxO b26 [.int .i64 x126, .int .i64 x127, .int .i64 x128, v12, v14, .int .u8 x129, .bool b130, .int .i64 x131, .int .i64 x132, .int .i64 x133, v16, v136] 117, boxO b7 [.int .i64 0, .int .i64 0, .int .i64 0] 36, boxO b5 [v_m_0_Globals, v_m_0_Pool, v_m_0_Methods, .int .i64 m_0.Migrate] 25] w2) ?_ ?_
  ·rintro a w2 ⟨x143, m144, o, hm_m144, ho, hr, ha, hw⟩
   refine CP.app ha hw ?_
   clear ha hw a w2
   refine CP.seq ?_
   refine CP.drawA (by kernel_rfl) (fun w2 k h => h.drawn k) ?_
   obtain ⟨x147, hx, ho⟩ := elt_bind ho
   refine DA.ghost (fun w2 h => h.elem see 1 rfl hx.1 hx.2) (fun p145 h_p145 => ?_)
   clear hx
   refine DA.ghost (fun w2 h => h.openE see 0 rfl (fun _ : Unit => [.int .i64 x147]) (fun _ => []) (fun h cs e => ⟨(), e, All.nil _⟩)) (fun _ _ => ?_)
   refine DA.ph 0 8 ?_
   refine DT.tk 0 ?_
   refine DT.tk 1 ?_
   refine DT.tk 2 ?_
   refine DT.tk 3 ?_
   refine DT.tk 4 ?_
   refine DT.tv 5 rfl (Val.indexE h_p145 Tryz.underlying55 sz3 rfl rfl) ?_
   refine DT.tv 6 rfl (Val.loadAt1 see 0 rfl Tryz.underlying3 rfl rfl) ?_
   refine DT.tk 7 ?_
   refine DT.next (by kernel_rfl) ?_
   refine DA.one 8 rfl (by kernel_rfl) ?_
   refine SP.imp (fun w2 hw => St.selO [1, 0, 2, 3] rfl rfl hw) ?_
   obtain ⟨t149, hc, ho⟩ := bind_some ho
   refine SP.callA see (caps := []) _ fn57 rfl rfl rfl rfl (fun w2 hP h1 sub s1 d1 ap hI => cost_sum_often_s3.ok _ _ _ _ _ _ _ _ _ _ _ _ _ _ _ _ _ _ _ _ hc w2 hP sub (ap.get 4 rfl) (ap.get 5 rfl) (ap.get 6 rfl) (ap.get 2 rfl) _ h1 s1 d1 hI) (SP.k0 ?_)
   clear hc
   refine go ?_
   refine QE.atA ?_
   refine DA.done (by kernel_rfl) (go ?_)
   refine CP.ci ho (fun ho => ?_) fun ho => ?_
   ·refine CP.drawA (by kernel_rfl) (fun w2 k h => h.drawn k) ?_
    obtain ⟨x152, hx, ho⟩ := elt_bind ho
    refine DA.ghost (fun w2 h => h.elem see 3 rfl hx.1 hx.2) (fun p150 h_p150 => ?_)
    clear hx
    refine DA.ghost (fun w2 h => h.openE see 0 rfl (fun _ : Unit => [.int .i64 x152]) (fun _ => []) (fun h cs e => ⟨(), e, All.nil _⟩)) (fun _ _ => ?_)
    obtain ⟨x156, hx, ho⟩ := elt_bind ho
    refine DA.ghost (fun w2 h => h.elem see 11 rfl hx.1 hx.2) (fun p154 h_p154 => ?_)
    clear hx
    refine DA.ghost (fun w2 h => h.openE see 0 rfl (fun ((v157, v159, v161) : Value × Value × Value) => [v157, v159, .int .u8 x156.Result, .bool x156.Reads, .int .i64 x156.Fuel, .int .i64 x156.Stack, .int .i64 x156.Heap, v161]) (fun ((v157, v159, v161) : Value × Value × Value) => [slP (kInt .u8) v157 x156.Args, slP (kInt .u8) v159 x156.Locals, slP k_api_Instr v161 x156.Code]) (fun h cs ⟨v157, v159, v161, e, p0, p1, p2⟩ => ⟨(v157, v159, v161), e, All.cons p0 (All.cons p1 (All.cons p2 (All.nil _)))⟩)) (fun z_ _ => ?_)
    obtain ⟨v157, v159, v161⟩ := z_
    obtain ⟨x166, hx, ho⟩ := elt_bind ho
    refine DA.ghost (fun w2 h => h.elem see 17 rfl hx.1 hx.2) (fun p164 h_p164 => ?_)
    clear hx
    refine DA.ghost (fun w2 h => h.openE see 0 rfl (fun _ : Unit => [.int .i64 x166.Fuel, .int .i64 x166.Stack, .int .i64 x166.Heap]) (fun _ => []) (fun h cs e => ⟨(), e, All.nil _⟩)) (fun _ _ => ?_)
    refine DA.ph 0 17 ?_
    refine DT.tk 0 ?_
    refine DT.tk 1 ?_
    refine DT.tk 2 ?_
    refine DT.tk 3 ?_
    refine DT.tv 4 rfl (Val.indexE h_p150 Tryz.underlying55 sz3 rfl rfl) ?_
    refine DT.tv 5 rfl (Val.loadAt1 see 7 rfl Tryz.underlying3 rfl rfl) ?_
    refine DT.tk 6 ?_
    refine DT.tk 7 ?_
    refine DT.tk 8 ?_
    refine DT.tk 9 ?_
    refine DT.tv 10 rfl (Val.indexE h_p154 Tryz.underlying23 sz41 rfl rfl) ?_
    refine DT.tv 11 rfl (Val.loadAtA see 2 rfl Tryz.underlying41 rfl sz41 rfl) ?_
    refine DT.tk 12 ?_
    refine DT.tk 13 ?_
    refine DT.tk 14 ?_
    refine DT.tv 15 rfl (Val.indexE h_p164 Tryz.underlying29 sz36 rfl rfl) ?_
    refine DT.tv 16 rfl (Val.loadAtA see 0 rfl Tryz.underlying36 rfl sz36 rfl) ?_
    refine DT.next (by kernel_rfl) ?_
    refine DA.one 17 rfl (by kernel_rfl) ?_
    obtain ⟨t168, hc, ho⟩ := bind_some ho
    refine SP.callA see (caps := []) _ fn58 rfl rfl rfl rfl (fun w2 hP h1 sub s1 d1 ap hI => cost_taker_call_s3.ok _ _ _ _ _ _ _ _ _ _ _ _ _ _ _ _ _ _ _ _ _ _ _ _ hc w2 hP sub (ap.get 13 rfl) (ap.get 14 rfl) (ap.get 15 rfl) (ap.get 11 rfl) (ap.get 3 rfl) (ap.get 4 rfl) (ap.get 5 rfl) _ h1 s1 d1 hI) (SP.k0 ?_)
    clear hc
    refine go ?_
    refine QE.atA ?_
    refine DA.done (by kernel_rfl) (go ?_)
    exact QE.meet fun a w2 ha hw => ⟨t168.1, t168.2.1, t168.2.2.1, t168.2.2.2.1, t168.2.2.2.2.1, t168.2.2.2.2.2.1, t168.2.2.2.2.2.2.1, t168.2.2.2.2.2.2.2, m144, _, (by omega), ho, hr, ha.sub sb, (St.selP [11, 12, 13, 14, 15, 16, 17, 18, 19, 20] rfl (St.selO [0, 2, 3] rfl rfl hw))⟩
   refine go ?_
   exact QE.meet fun a w2 ha hw => ⟨t149.1, t149.2.1, t149.2.2.1, t149.2.2.2.1, t149.2.2.2.2.1, t149.2.2.2.2.2.1, t149.2.2.2.2.2.2.1, t149.2.2.2.2.2.2.2, m144, _, (by omega), ho, hr, ha.sub sb, (St.selP [2, 3, 4, 5, 6, 7, 8, 9, 10, 11] rfl (St.selO [0, 2, 3] rfl rfl hw))⟩
  refine go ?_
  refine CP.ci ho (fun ho => ?_) fun ho => ?_
  ·refine go ?_
   exact QE.meet fun a w2 ha hw => ⟨x140.A, m137, _, (by omega), ho, hr, ha.sub sb, (St.selP [1, 2, 3, 4, 5, 6, 7, 8, 9, 10] rfl hw)⟩
  refine go ?_
  exact QE.meet fun a w2 ha hw => ⟨0, m137, _, (by omega), ho, hr, ha.sub sb, (St.selP [1, 2, 3, 4, 5, 6, 7, 8, 9, 10] rfl hw)⟩
 refine go ?_
 refine SP.val (Val.loadA 0 rfl Tryz.underlying36 rfl sz36 rfl rfl rfl) rfl rfl rfl ?_
 refine SP.store (v := .agg #[.int .i64 x126, .int .i64 x127, .int .i64 x128]) (vs := [.int .i64 x126, .int .i64 x127, .int .i64 x128]) 1 (by rfl) sz36 (by rfl) (by rfl) (by rfl) (by rfl) (by rfl) (by rfl) (go ?_)
 obtain rfl := fin ho hr
 exact QE.rt (fun _ h => h) (rs := [.cell 6 36]) (vs := [.agg #[.int .i64 x126, .int .i64 x127, .int .i64 x128]]) (hv := ⟨RVs.cellA 1 rfl rfl Tryz.underlying36 rfl sz36, trivial⟩)
def cost_within.f (n_0 : Int) (declared_1 : Int) (most_2 : Int) : Option Bool :=
  some (((decide (n_0 ≥ 0)) && (decide (n_0 ≤ declared_1))) && (decide (n_0 ≤ most_2)))
theorem cost_within.ok (n_0 declared_1 most_2 : Int)  (r : Bool) (H : cost_within.f n_0 declared_1 most_2 = some r) (w : World) (hV : Hp) (sV : Sub hV (hp w))  :
    Trip Tryz.prog 23 [.int .i64 n_0, .int .i64 declared_1, .int .i64 most_2].toArray em hV w (fun v => HO.pure (v = .bool r)) := by
 refine Trip.go 19 Tryz.func23 sV (All.nil _) fun see => ?_
 have ho := H
 refine go ?_
 refine SP.jn 4 [0, 2] 13 (.bool ((decide (n_0 ≥ 0)) && (decide (n_0 ≤ declared_1)))) ?_ ?_
 ·refine go ?_
  refine SP.jn 4 [] 18 (.bool (((decide (n_0 ≥ 0)) && (decide (n_0 ≤ declared_1))) && (decide (n_0 ≤ most_2)))) ?_ ?_
  ·refine go ?_
   obtain rfl := Option.some.inj ho
   exact QE.rt (fun _ h => h)
  refine SP.bb 14 (fun hq4 => ?_) fun hq4 => ?_
  ·refine go ?_
   exact QE.jb (and_t hq4 rfl) fun w2 hw => hw
  refine go ?_
  exact QE.jb (and_f hq4) fun w2 hw => hw
 refine SP.bb 9 (fun hq2 => ?_) fun hq2 => ?_
 ·refine go ?_
  exact QE.jb (and_t hq2 rfl) fun w2 hw => hw
 refine go ?_
 exact QE.jb (and_f hq2) fun w2 hw => hw
def cost_Fits.f (c_0 : api_Cert) (x_1 : api_Method) : Option Bool :=
  (cost_within.f c_0.Fuel x_1.Fuel 1048576).bind fun t8 => (if t8 = true then ((cost_within.f c_0.Stack x_1.Stack 256).bind fun t11 => some t11) else (some false)).bind fun t12 => (if t12 = true then ((cost_within.f c_0.Heap x_1.Heap 1024).bind fun t15 => some t15) else (some false)).bind fun t16 => some t16
theorem cost_Fits.ok (c_0 : api_Cert) (x_1 : api_Method) (v_x_1_Args v_x_1_Locals v_x_1_Code : Value) (r : Bool) (H : cost_Fits.f c_0 x_1 = some r) (w : World) (hV : Hp) (sV : Sub hV (hp w)) (h0 : slR (kInt .u8) hV v_x_1_Args x_1.Args) (h1 : slR (kInt .u8) hV v_x_1_Locals x_1.Locals) (h2 : slR k_api_Instr hV v_x_1_Code x_1.Code) :
    Trip Tryz.prog 11 [.agg #[.int .i64 c_0.Fuel, .int .i64 c_0.Stack, .int .i64 c_0.Heap], .agg #[v_x_1_Args, v_x_1_Locals, .int .u8 x_1.Result, .bool x_1.Reads, .int .i64 x_1.Fuel, .int .i64 x_1.Stack, .int .i64 x_1.Heap, v_x_1_Code]].toArray em hV w (fun v => HO.pure (v = .bool r)) := by
 refine Trip.go 24 Tryz.func11 sV (aS h0 (aS h1 (aS h2 (All.nil _)))) fun see => ?_
 have ho := H
 refine go ?_
 refine SP.box rfl rfl rfl rfl fun b4 => ?_
 refine SP.box rfl rfl rfl rfl fun b6 => go ?_
 obtain ⟨t8, hc, ho⟩ := bind_some ho
 refine SP.callV see (caps := []) (.bool t8) fn23 rfl rfl rfl rfl (fun w2 hP hs sub ap => cost_within.ok _ _ _  _ hc w2 hP sub ) ?_
 clear hc
 refine go ?_
 obtain ⟨t12, hg_t12, ho⟩ := bind_some ho
 refine SP.jn 6 [2, 3] 16 (.bool t12) ?_ ?_
 ·clear hg_t12
  refine go ?_
  obtain ⟨t16, hg_t16, ho⟩ := bind_some ho
  refine SP.jn 6 [] 23 (.bool t16) ?_ ?_
  ·clear hg_t16
   refine go ?_
   obtain rfl := Option.some.inj ho
   exact QE.rt (fun _ h => h)
  refine SP.cb 17 hg_t16 (fun hq14 ho => ?_) fun hq14 ho => ?_
  ·refine go ?_
   obtain ⟨t15, hc, ho⟩ := bind_some ho
   refine SP.callV see (caps := []) (.bool t15) fn23 rfl rfl rfl rfl (fun w2 hP hs sub ap => cost_within.ok _ _ _  _ hc w2 hP sub ) ?_
   clear hc
   refine go ?_
   obtain rfl := Option.some.inj ho
   exact QE.jn fun w2 hw => hw
  refine go ?_
  obtain rfl := Option.some.inj ho
  exact QE.jn fun w2 hw => hw
 refine SP.cb 10 hg_t12 (fun hq10 ho => ?_) fun hq10 ho => ?_
 ·refine go ?_
  obtain ⟨t11, hc, ho⟩ := bind_some ho
  refine SP.callV see (caps := []) (.bool t11) fn23 rfl rfl rfl rfl (fun w2 hP hs sub ap => cost_within.ok _ _ _  _ hc w2 hP sub ) ?_
  clear hc
  refine go ?_
  obtain rfl := Option.some.inj ho
  exact QE.jn fun w2 hw => hw
 refine go ?_
 obtain rfl := Option.some.inj ho
 exact QE.jn fun w2 hw => hw
inductive cost_Costs.S where
  | start
  | l1 (t6 : (List Int) × Int) (x61 : Int)
  | l2 (t6 : (List Int) × Int) (l87 : List api_Cert) (x89 : Int)
def cost_Costs.F (m_0 : api_Module) : cost_Costs.S → Option (cost_Costs.S ⊕ ((List api_Cert) × Int))
  | .start => (calls_Order.f m_0).bind fun t6 => if t6.2 ≠ 0 then (some (.inr ([], t6.2))) else (some (.inl (.l1 t6 0)))
  | .l1 t6 x61 => if x61 < (m_0.Methods.length : Int) then ((types_Check.f m_0 x61).bind fun t63 => if t63 ≠ 0 then (some (.inr ([], t63))) else (some (.inl (.l1 t6 (IntKind.i64.wrap (x61 + 1)))))) else (if (0 : Int) ≤ (t6.1.length : Int) ∧ (24 : Int) * (t6.1.length : Int) ≤ 281474976710656 ∧ ((t6.1.length : Int) : Int) ≤ 9223372036854775807 then (some (.inl (.l2 t6 (List.replicate ((t6.1.length : Int) : Int).toNat api_Cert.zero : List api_Cert) 0))) else none)
  | .l2 t6 l87 x89 => if x89 < (t6.1.length : Int) then ((elt t6.1 x89).bind fun x92 => (cost_one.f m_0 x92 l87).bind fun t93 => (elt l87 x92).bind fun x95 => (elt (l87.set x92.toNat t93) x92).bind fun x97 => (elt m_0.Methods x92).bind fun x100 => (cost_Fits.f x97 x100).bind fun t108 => if (!t108) = true then (some (.inr ([], 120))) else (some (.inl (.l2 t6 (l87.set x92.toNat t93) (IntKind.i64.wrap (x89 + 1)))))) else (some (.inr (l87, 0)))
def cost_Costs.f (m_0 : api_Module) : Option ((List api_Cert) × Int) := runF (cost_Costs.F m_0) .start
theorem cost_Costs.ok (m_0 : api_Module) (v_m_0_Globals v_m_0_Pool v_m_0_Methods : Value)  (r : (List api_Cert) × Int) (H : cost_Costs.f m_0 = some r) (w : World) (hV : Hp) (sV : Sub hV (hp w)) (h0 : slR k_api_Value hV v_m_0_Globals m_0.Globals) (h1 : slR k_api_Value hV v_m_0_Pool m_0.Pool) (h2 : slR k_api_Method hV v_m_0_Methods m_0.Methods) (h3 : (arrP k_arr221 0 tab0).p hV) :
    Trip Tryz.prog 14 [.agg #[v_m_0_Globals, v_m_0_Pool, v_m_0_Methods, .int .i64 m_0.Migrate]].toArray em hV w (fun v => HO.ex fun u0 : Value => HO.pand (v = .tuple #[u0, .int .i64 r.2]) (HO.seps [slO k_api_Cert 36 u0 r.1])) := by
 refine Trip.go 61 Tryz.func14 sV (aS h0 (aS h1 (aS h2 (All.cons (x := arrP k_arr221 0 tab0) h3 (All.nil _))))) fun see => ?_
 obtain ⟨n0, hi⟩ := runF_iff.1 H
 obtain ⟨m0, o, hm0, ho, hr⟩ := iter_some hi
 clear hi
 refine go ?_
 refine SP.box rfl rfl rfl rfl fun b4 => go ?_
 refine SP.val (Val.loadA 0 rfl Tryz.underlying25 rfl sz25 rfl rfl rfl) rfl rfl rfl ?_
 obtain ⟨t6, hc, ho⟩ := bind_some ho
 refine SP.callK see (caps := []) _ fn27 rfl rfl rfl rfl (fun w2 hP hs sub ap => calls_Order.ok _ _ _ _ _ hc w2 hP sub (ap.get 0 rfl) (ap.get 1 rfl) (ap.get 2 rfl)) (SP.k1 fun v7 => ?_)
 clear hc
 refine go ?_
 refine CP.seq (go ?_)
 refine CP.ci ho (fun ho => ?_) fun ho => ?_
 ·refine go ?_
  obtain rfl := fin ho hr
  exact QE.rt (fun _ h => St.selO [0] rfl rfl (St.addO (slO.nil k_api_Cert 36) h))
 refine go ?_
 refine CP.seq (go ?_)
 obtain rfl := Option.some.inj ho
 refine CP.loop (fun cl1 a w2 => ∃ x61 : Int, cl1 ≤ m0 ∧ iter (cost_Costs.F m_0) cl1 (.l1 t6 x61) = some r ∧ Env ⟨61, []⟩ [(1, .pointer (some ⟨b4, 0, none⟩)), (4, v7), (21, .int .i64 (m_0.Methods.length : Int)), (22, .int .i64 x61)] a ∧ St w em hV [slP k_api_Value v_m_0_Globals m_0.Globals, slP k_api_Value v_m_0_Pool m_0.Pool, slP k_api_Method v_m_0_Methods m_0.Methods, arrP k_arr221 0 tab0] [slO (kInt .i64) 3 v7 t6.1, boxO b4 [v_m_0_Globals, v_m_0_Pool, v_m_0_Methods, .int .i64 m_0.Migrate] 25] w2) m0 (fun a w2 ha hw => ⟨0, Nat.le_refl _, hr, ha.sub sb, hw⟩) ?_
 clear hr
 rintro cl1 a w2 ⟨x61, hc_l1, hi, ha, hw⟩
 obtain ⟨m62, o, hm_m62, ho, hr⟩ := iter_some hi
 refine CP.app ha hw ?_
 clear ha hw a w2 hi
 refine go ?_
 refine CP.seq ?_
 refine CP.ci ho (fun ho => ?_) fun ho => ?_
 ·refine go ?_
  refine CP.seq (go ?_)
  refine SP.val (Val.loadA 1 rfl Tryz.underlying25 rfl sz25 rfl rfl rfl) rfl rfl rfl (go ?_)
  obtain ⟨t63, hc, ho⟩ := bind_some ho
  refine SP.callV see (caps := []) (.int .i64 t63) fn28 rfl rfl rfl rfl (fun w2 hP hs sub ap => types_Check.ok _ _ _ _ _ _ hc w2 hP sub (ap.get 0 rfl) (ap.get 1 rfl) (ap.get 2 rfl) (ap.get 3 rfl)) ?_
  clear hc
  refine go ?_
  refine CP.ci ho (fun ho => ?_) fun ho => ?_
  ·refine go ?_
   obtain rfl := fin ho hr
   exact QE.rt (fun _ h => St.selO [0] rfl rfl (St.addO (slO.nil k_api_Cert 36) h))
  refine go ?_
  obtain rfl := Option.some.inj ho
  exact QE.lower m62 (by omega) fun a w2 ha hw => ⟨(IntKind.i64.wrap (x61 + 1)), (by omega), hr, ha.sub sb, hw⟩
 refine go ?_
 refine SP.val (Val.lenW (fun w2 hw => slO.whole (St.own 0 rfl see.sub see.dj hw)) Tryz.underlying55 rfl) rfl rfl rfl ?_
 obtain ⟨hb, ho⟩ := must_some ho
 refine SP.makeS (k := k_api_Cert) (z := api_Cert.zero) Tryz.underlying29 inf36 rfl rfl (fun _ => rfl) rfl rfl rfl rfl hb (fun v65 => ?_)
 clear hb
 refine go ?_
 refine CP.seq (go ?_)
 refine SP.val (Val.lenW (fun w2 hw => slO.whole (St.own 1 rfl see.sub see.dj hw)) Tryz.underlying55 rfl) rfl rfl rfl (go ?_)
 obtain rfl := Option.some.inj ho
 refine CP.loop (fun cl2 a w2 => ∃ l87 : List api_Cert, ∃ x89 : Int, ∃ v88 : Value, cl2 ≤ m62 ∧ iter (cost_Costs.F m_0) cl2 (.l2 t6 l87 x89) = some r ∧ Env ⟨61, []⟩ [(1, .pointer (some ⟨b4, 0, none⟩)), (8, v88), (35, v7), (36, .int .i64 (t6.1.length : Int)), (37, .int .i64 x89)] a ∧ St w em hV [slP k_api_Value v_m_0_Globals m_0.Globals, slP k_api_Value v_m_0_Pool m_0.Pool, slP k_api_Method v_m_0_Methods m_0.Methods, arrP k_arr221 0 tab0] [slO k_api_Cert 36 v88 l87, slO (kInt .i64) 3 v7 t6.1, boxO b4 [v_m_0_Globals, v_m_0_Pool, v_m_0_Methods, .int .i64 m_0.Migrate] 25] w2) m62 (fun a w2 ha hw => ⟨(List.replicate ((t6.1.length : Int) : Int).toNat api_Cert.zero : List api_Cert), 0, v65, Nat.le_refl _, hr, ha.sub sb, hw⟩) ?_
 clear hr
 rintro cl2 a w2 ⟨l87, x89, v88, hc_l2, hi, ha, hw⟩
 obtain ⟨m90, o, hm_m90, ho, hr⟩ := iter_some hi
 refine CP.app ha hw ?_
 clear ha hw a w2 hi
 refine go ?_
 refine CP.seq ?_
 refine CP.ci ho (fun ho => ?_) fun ho => ?_
 ·refine go ?_
  refine CP.seq (go ?_)
  obtain ⟨x92, hx_x92, ho⟩ := elt_bind ho
  refine SP.indexW (fun w2 hw => slO.whole (St.own 1 rfl see.sub see.dj hw)) Tryz.underlying55 sz3 hx_x92.1 hx_x92.2 rfl rfl rfl rfl (fun p91 h_p91 => ?_)
  refine SP.val (Val.loadW1 (off := 0) (k := (kInt .i64)) (fun w2 hw => slO.whole (St.own 1 rfl see.sub see.dj hw)) hx_x92.2 h_p91 (fun _ _ e => by subst e; rfl) Tryz.underlying3 rfl rfl) rfl rfl rfl (go ?_)
  refine SP.val (Val.loadA 2 rfl Tryz.underlying25 rfl sz25 rfl rfl rfl) rfl rfl rfl (go ?_)
  obtain ⟨t93, hc, ho⟩ := bind_some ho
  refine SP.callVO see (caps := []) (.agg #[.int .i64 t93.Fuel, .int .i64 t93.Stack, .int .i64 t93.Heap]) fn29 rfl rfl rfl rfl (fun w2 hs => cost_one.ok _ _ _ _ _ _ _ _ hc w2 (hp w2) (Sub.refl _) ((St.pers 0 rfl see.sub see.dj hs)) ((St.pers 1 rfl see.sub see.dj hs)) ((St.pers 2 rfl see.sub see.dj hs)) (slO.read (St.own 0 rfl see.sub see.dj hs) (Sub.refl _) (Sub.refl _)) ((St.pers 3 rfl see.sub see.dj hs))) ?_
  clear hc
  obtain ⟨x95, hx_x95, ho⟩ := elt_bind ho
  refine SP.indexW (fun w2 hw => slO.whole (St.own 0 rfl see.sub see.dj hw)) Tryz.underlying29 sz36 hx_x95.1 hx_x95.2 rfl rfl rfl rfl (fun p94 h_p94 => ?_)
  refine SP.storeO (z0 := t93) (off := 0) (vs := [.int .i64 t93.Fuel, .int .i64 t93.Stack, .int .i64 t93.Heap]) see 0 rfl hx_x95.2 h_p94 rfl rfl sz36 rfl (fun a cs _ e => by subst e; rfl) rfl rfl rfl (go ?_)
  refine CP.seq ?_
  refine CP.drawA (by kernel_rfl) (fun w2 k h => h.drawn k) ?_
  obtain ⟨x97, hx_x97, ho⟩ := elt_bind ho
  refine DA.ghost (fun w2 hw => let ⟨z, hz⟩ := ixC ((fun w2 hw => slO.whole (St.own 0 rfl see.sub see.dj hw)) w2 hw) hx_x97.1 hx_x97.2; ⟨z, hz, hw⟩) (fun p96 i_p96 => ?_)
  have h_p96 := i_p96.1
  obtain ⟨x100, hx, ho⟩ := elt_bind ho
  refine DA.ghost (fun w2 h => h.elem see 2 rfl hx.1 hx.2) (fun p98 h_p98 => ?_)
  clear hx
  refine DA.ghost (fun w2 h => h.openE see 0 rfl (fun ((v101, v103, v105) : Value × Value × Value) => [v101, v103, .int .u8 x100.Result, .bool x100.Reads, .int .i64 x100.Fuel, .int .i64 x100.Stack, .int .i64 x100.Heap, v105]) (fun ((v101, v103, v105) : Value × Value × Value) => [slP (kInt .u8) v101 x100.Args, slP (kInt .u8) v103 x100.Locals, slP k_api_Instr v105 x100.Code]) (fun h cs ⟨v101, v103, v105, e, p0, p1, p2⟩ => ⟨(v101, v103, v105), e, All.cons p0 (All.cons p1 (All.cons p2 (All.nil _)))⟩)) (fun z_ _ => ?_)
  obtain ⟨v101, v103, v105⟩ := z_
  refine DA.ph 0 9 ?_
  refine DT.tk 0 ?_
  refine DT.tk 1 ?_
  refine DT.tv 2 rfl (Val.indexC' i_p96 Tryz.underlying29 sz36 rfl rfl) ?_
  refine DT.tv 3 rfl (Val.loadOA see 0 rfl hx_x97.2 h_p96 (fun _ _ e => e) Tryz.underlying36 rfl sz36 rfl) ?_
  refine DT.tk 4 ?_
  refine DT.tk 5 ?_
  refine DT.tk 6 ?_
  refine DT.tv 7 rfl (Val.indexE h_p98 Tryz.underlying23 sz41 rfl rfl) ?_
  refine DT.tv 8 rfl (Val.loadAtA see 0 rfl Tryz.underlying41 rfl sz41 rfl) ?_
  refine DT.next (by kernel_rfl) ?_
  refine DA.one 9 rfl (by kernel_rfl) ?_
  obtain ⟨t108, hc, ho⟩ := bind_some ho
  refine SP.callV see (caps := []) (.bool t108) fn11 rfl rfl rfl rfl (fun w2 hP hs sub ap => cost_Fits.ok _ _ _ _ _ _ hc w2 hP sub (ap.get 1 rfl) (ap.get 2 rfl) (ap.get 3 rfl)) ?_
  clear hc
  refine go ?_
  refine QE.atA ?_
  refine DA.one 10 rfl (by kernel_rfl) (go ?_)
  refine QE.atA ?_
  refine DA.done (by kernel_rfl) (go ?_)
  refine CP.cb ho (fun ho => ?_) fun ho => ?_
  ·refine go ?_
   obtain rfl := fin ho hr
   exact QE.rt (fun _ h => St.selO [0] rfl rfl (St.addO (slO.nil k_api_Cert 36) h))
  refine go ?_
  obtain rfl := Option.some.inj ho
  exact QE.lower m90 (by omega) fun a w2 ha hw => ⟨(l87.set x92.toNat t93), (IntKind.i64.wrap (x89 + 1)), v88, (by omega), hr, ha.sub sb, (St.selP [5, 6, 7, 8] rfl hw)⟩
 refine go ?_
 obtain rfl := fin ho hr
 exact QE.rt (fun _ h => St.selO [0] rfl rfl h)
def capstanlaw12_awake.f  : Option Bool :=
  (capstanlaw12_declared.f [1] ([2, 0, 31, 0] : List Int)).bind fun t5 => (capstanlaw12_declared.f [] ([28, 3, 1, 0, 22, 4, 6, 0, 29, 0, 1, 0, 31, 0] : List Int)).bind fun t16 => (capstanlaw12_declared.f [] ([1, 0, 30, 0, 31, 0] : List Int)).bind fun t27 => (cost_Costs.f (⟨[], [(⟨1, 3, 0⟩ : api_Value)], [t5, t16, t27], (-1)⟩ : api_Module)).bind fun t42 => (if ((decide (t42.2 = 0)) && (decide ((t42.1.length : Int) = 3))) = true then ((elt t42.1 0).bind fun x50 => some (x50.Fuel == 2 && (x50.Stack == 2 && (x50.Heap == 0)))) else (some false)).bind fun t51 => (if t51 = true then ((elt t42.1 1).bind fun x55 => some (x55.Fuel == 15 && (x55.Stack == 1 && (x55.Heap == 12)))) else (some false)).bind fun t56 => (if t56 = true then ((elt t42.1 2).bind fun x60 => some (x60.Fuel == 5 && (x60.Stack == 2 && (x60.Heap == 0)))) else (some false)).bind fun t61 => some t61
theorem capstanlaw12_awake.ok   (r : Bool) (H : capstanlaw12_awake.f  = some r) (w : World) (hV : Hp) (sV : Sub hV (hp w)) (h0 : (arrP k_arr221 0 tab0).p hV) :
    Trip Tryz.prog 8 [].toArray em hV w (fun v => HO.pure (v = .bool r)) := by
 refine Trip.go 74 Tryz.func8 sV (All.cons (x := arrP k_arr221 0 tab0) h0 (All.nil _)) fun see => ?_
 have ho := H
 refine go ?_
 refine SP.lit (k := (kInt .u8)) (xs := [1]) (vs := [.int .u8 1]) (cells := [.int .u8 1]) Tryz.underlying38 inf5 rfl rfl rfl rfl rfl rfl rfl rfl (fun _ ap => ⟨[.int .u8 1], _, rfl, rfl, rfl⟩) rfl rfl rfl (fun v1 => go ?_)
 refine SP.lit (k := (kInt .i64)) (xs := ([2, 0, 31, 0] : List Int)) (vs := [.int .i64 2, .int .i64 0, .int .i64 31, .int .i64 0]) (cells := [.int .i64 2, .int .i64 0, .int .i64 31, .int .i64 0]) Tryz.underlying55 inf3 rfl rfl rfl rfl rfl rfl rfl rfl (fun _ ap => ⟨[.int .i64 2], _, rfl, rfl, ⟨[.int .i64 0], _, rfl, rfl, ⟨[.int .i64 31], _, rfl, rfl, ⟨[.int .i64 0], _, rfl, rfl, rfl⟩⟩⟩⟩) rfl rfl rfl (fun v3 => ?_)
 refine SP.freezeS see 1 rfl ?_
 refine SP.freezeS see 0 rfl ?_
 obtain ⟨t5, hc, ho⟩ := bind_some (x := capstanlaw12_declared.f [1] ([2, 0, 31, 0] : List Int)) ho
 refine SP.callK see (caps := []) _ fn21 rfl rfl rfl rfl (fun w2 hP hs sub ap => capstanlaw12_declared.ok _ _ _ _ _ hc w2 hP sub (ap.get 1 rfl) (ap.get 0 rfl)) (SP.k3 fun v6 v7 v8 => ?_)
 refine SP.imp (fun w2 h => St.toP 0 rfl h) ?_
 clear hc
 refine SP.alloc (cs := [(.slice none 0 0), (.slice none 0 0), .int .u8 0, .bool false, .int .i64 0, .int .i64 0, .int .i64 0, (.slice none 0 0)]) inf41 rfl rfl (fun b12 => ?_)
 refine SP.have (fun w2 hw => slR.shape (St.pers 0 rfl see.sub see.dj hw)) (fun hs_v6 => ?_)
 refine SP.have (fun w2 hw => slO.shape (St.own 1 rfl see.sub see.dj hw)) (fun hs_v7 => ?_)
 refine SP.have (fun w2 hw => slO.shape (St.own 2 rfl see.sub see.dj hw)) (fun hs_v8 => ?_)
 refine SP.store (v := .agg #[v6, v7, .int .u8 t5.Result, .bool t5.Reads, .int .i64 t5.Fuel, .int .i64 t5.Stack, .int .i64 t5.Heap, v8]) (vs := [v6, v7, .int .u8 t5.Result, .bool t5.Reads, .int .i64 t5.Fuel, .int .i64 t5.Stack, .int .i64 t5.Heap, v8]) 0 (by rfl) sz41 (by rfl) (by rfl) (by rfl) (by rfl) (one_cons hs_v6 (one_cons hs_v7 (one_cons rfl (one_cons rfl (one_cons rfl (one_cons rfl (one_cons rfl (one_cons hs_v8 (rfl))))))))) (by rfl) (go ?_)
 refine SP.lit (k := (kInt .i64)) (xs := ([28, 3, 1, 0, 22, 4, 6, 0, 29, 0, 1, 0, 31, 0] : List Int)) (vs := [.int .i64 28, .int .i64 3, .int .i64 1, .int .i64 0, .int .i64 22, .int .i64 4, .int .i64 6, .int .i64 0, .int .i64 29, .int .i64 0, .int .i64 1, .int .i64 0, .int .i64 31, .int .i64 0]) (cells := [.int .i64 28, .int .i64 3, .int .i64 1, .int .i64 0, .int .i64 22, .int .i64 4, .int .i64 6, .int .i64 0, .int .i64 29, .int .i64 0, .int .i64 1, .int .i64 0, .int .i64 31, .int .i64 0]) Tryz.underlying55 inf3 rfl rfl rfl rfl rfl rfl rfl rfl (fun _ ap => ⟨[.int .i64 28], _, rfl, rfl, ⟨[.int .i64 3], _, rfl, rfl, ⟨[.int .i64 1], _, rfl, rfl, ⟨[.int .i64 0], _, rfl, rfl, ⟨[.int .i64 22], _, rfl, rfl, ⟨[.int .i64 4], _, rfl, rfl, ⟨[.int .i64 6], _, rfl, rfl, ⟨[.int .i64 0], _, rfl, rfl, ⟨[.int .i64 29], _, rfl, rfl, ⟨[.int .i64 0], _, rfl, rfl, ⟨[.int .i64 1], _, rfl, rfl, ⟨[.int .i64 0], _, rfl, rfl, ⟨[.int .i64 31], _, rfl, rfl, ⟨[.int .i64 0], _, rfl, rfl, rfl⟩⟩⟩⟩⟩⟩⟩⟩⟩⟩⟩⟩⟩⟩) rfl rfl rfl (fun v14 => ?_)
 refine SP.freezeS see 0 rfl ?_
 obtain ⟨t16, hc, ho⟩ := bind_some (x := capstanlaw12_declared.f [] ([28, 3, 1, 0, 22, 4, 6, 0, 29, 0, 1, 0, 31, 0] : List Int)) ho
 refine SP.callK see (caps := []) _ fn21 rfl rfl rfl rfl (fun w2 hP hs sub ap => capstanlaw12_declared.ok _ _ _ _ _ hc w2 hP sub (slP.nil _ _) (ap.get 0 rfl)) (SP.k3 fun v17 v18 v19 => ?_)
 refine SP.imp (fun w2 h => St.toP 0 rfl h) ?_
 clear hc
 refine SP.alloc (cs := [(.slice none 0 0), (.slice none 0 0), .int .u8 0, .bool false, .int .i64 0, .int .i64 0, .int .i64 0, (.slice none 0 0)]) inf41 rfl rfl (fun b23 => ?_)
 refine SP.have (fun w2 hw => slR.shape (St.pers 0 rfl see.sub see.dj hw)) (fun hs_v17 => ?_)
 refine SP.have (fun w2 hw => slO.shape (St.own 1 rfl see.sub see.dj hw)) (fun hs_v18 => ?_)
 refine SP.have (fun w2 hw => slO.shape (St.own 2 rfl see.sub see.dj hw)) (fun hs_v19 => ?_)
 refine SP.store (v := .agg #[v17, v18, .int .u8 t16.Result, .bool t16.Reads, .int .i64 t16.Fuel, .int .i64 t16.Stack, .int .i64 t16.Heap, v19]) (vs := [v17, v18, .int .u8 t16.Result, .bool t16.Reads, .int .i64 t16.Fuel, .int .i64 t16.Stack, .int .i64 t16.Heap, v19]) 0 (by rfl) sz41 (by rfl) (by rfl) (by rfl) (by rfl) (one_cons hs_v17 (one_cons hs_v18 (one_cons rfl (one_cons rfl (one_cons rfl (one_cons rfl (one_cons rfl (one_cons hs_v19 (rfl))))))))) (by rfl) (go ?_)
 refine SP.lit (k := (kInt .i64)) (xs := ([1, 0, 30, 0, 31, 0] : List Int)) (vs := [.int .i64 1, .int .i64 0, .int .i64 30, .int .i64 0, .int .i64 31, .int .i64 0]) (cells := [.int .i64 1, .int .i64 0, .int .i64 30, .int .i64 0, .int .i64 31, .int .i64 0]) Tryz.underlying55 inf3 rfl rfl rfl rfl rfl rfl rfl rfl (fun _ ap => ⟨[.int .i64 1], _, rfl, rfl, ⟨[.int .i64 0], _, rfl, rfl, ⟨[.int .i64 30], _, rfl, rfl, ⟨[.int .i64 0], _, rfl, rfl, ⟨[.int .i64 31], _, rfl, rfl, ⟨[.int .i64 0], _, rfl, rfl, rfl⟩⟩⟩⟩⟩⟩) rfl rfl rfl (fun v25 => ?_)
 refine SP.freezeS see 0 rfl ?_
 obtain ⟨t27, hc, ho⟩ := bind_some (x := capstanlaw12_declared.f [] ([1, 0, 30, 0, 31, 0] : List Int)) ho
 refine SP.callK see (caps := []) _ fn21 rfl rfl rfl rfl (fun w2 hP hs sub ap => capstanlaw12_declared.ok _ _ _ _ _ hc w2 hP sub (slP.nil _ _) (ap.get 0 rfl)) (SP.k3 fun v28 v29 v30 => ?_)
 refine SP.imp (fun w2 h => St.toP 0 rfl h) ?_
 clear hc
 refine SP.alloc (cs := [(.slice none 0 0), (.slice none 0 0), .int .u8 0, .bool false, .int .i64 0, .int .i64 0, .int .i64 0, (.slice none 0 0)]) inf41 rfl rfl (fun b34 => ?_)
 refine SP.have (fun w2 hw => slR.shape (St.pers 0 rfl see.sub see.dj hw)) (fun hs_v28 => ?_)
 refine SP.have (fun w2 hw => slO.shape (St.own 1 rfl see.sub see.dj hw)) (fun hs_v29 => ?_)
 refine SP.have (fun w2 hw => slO.shape (St.own 2 rfl see.sub see.dj hw)) (fun hs_v30 => ?_)
 refine SP.store (v := .agg #[v28, v29, .int .u8 t27.Result, .bool t27.Reads, .int .i64 t27.Fuel, .int .i64 t27.Stack, .int .i64 t27.Heap, v30]) (vs := [v28, v29, .int .u8 t27.Result, .bool t27.Reads, .int .i64 t27.Fuel, .int .i64 t27.Stack, .int .i64 t27.Heap, v30]) 0 (by rfl) sz41 (by rfl) (by rfl) (by rfl) (by rfl) (one_cons hs_v28 (one_cons hs_v29 (one_cons rfl (one_cons rfl (one_cons rfl (one_cons rfl (one_cons rfl (one_cons hs_v30 (rfl))))))))) (by rfl) (go ?_)
 refine SP.val (Val.buildC (us := [(0, .int .u8 1), (1, .int .i64 3)]) (ucs := [(0, [.int .u8 1]), (1, [.int .i64 3])]) (cs := [.int .u8 1, .int .i64 3, .int .i64 0]) bt62 rfl rfl ⟨rfl, rfl, ⟨rfl, rfl, trivial⟩⟩ (by rfl)) rfl rfl rfl ?_
 refine SP.lit (k := k_api_Value) (xs := [(⟨1, 3, 0⟩ : api_Value)]) (vs := [.agg #[.int .u8 1, .int .i64 3, .int .i64 0]]) (cells := [.int .u8 1, .int .i64 3, .int .i64 0]) Tryz.underlying22 inf62 rfl rfl rfl rfl rfl rfl rfl rfl (fun _ ap => ⟨[.int .u8 1, .int .i64 3, .int .i64 0], _, rfl, rfl, rfl⟩) rfl rfl rfl (fun v36 => ?_)
 refine SP.val (Val.loadA 7 rfl Tryz.underlying41 rfl sz41 rfl rfl rfl) rfl rfl rfl ?_
 refine SP.val (Val.loadA 4 rfl Tryz.underlying41 rfl sz41 rfl rfl rfl) rfl rfl rfl ?_
 refine SP.val (Val.loadA 1 rfl Tryz.underlying41 rfl sz41 rfl rfl rfl) rfl rfl rfl ?_
 refine SP.freezeS see 8 rfl ?_
 refine SP.freezeS see 8 rfl ?_
 refine SP.freezeS see 5 rfl ?_
 refine SP.freezeS see 5 rfl ?_
 refine SP.freezeS see 2 rfl ?_
 refine SP.freezeS see 2 rfl ?_
 refine SP.lit (k := k_api_Method) (xs := [t5, t16, t27]) (vs := [.agg #[v6, v7, .int .u8 t5.Result, .bool t5.Reads, .int .i64 t5.Fuel, .int .i64 t5.Stack, .int .i64 t5.Heap, v8], .agg #[v17, v18, .int .u8 t16.Result, .bool t16.Reads, .int .i64 t16.Fuel, .int .i64 t16.Stack, .int .i64 t16.Heap, v19], .agg #[v28, v29, .int .u8 t27.Result, .bool t27.Reads, .int .i64 t27.Fuel, .int .i64 t27.Stack, .int .i64 t27.Heap, v30]]) (cells := [v6, v7, .int .u8 t5.Result, .bool t5.Reads, .int .i64 t5.Fuel, .int .i64 t5.Stack, .int .i64 t5.Heap, v8, v17, v18, .int .u8 t16.Result, .bool t16.Reads, .int .i64 t16.Fuel, .int .i64 t16.Stack, .int .i64 t16.Heap, v19, v28, v29, .int .u8 t27.Result, .bool t27.Reads, .int .i64 t27.Fuel, .int .i64 t27.Stack, .int .i64 t27.Heap, v30]) Tryz.underlying23 inf41 rfl rfl rfl rfl rfl rfl rfl rfl (fun _ ap => ⟨[v6, v7, .int .u8 t5.Result, .bool t5.Reads, .int .i64 t5.Fuel, .int .i64 t5.Stack, .int .i64 t5.Heap, v8], _, rfl, ⟨_, _, _, rfl, ap.get 10 rfl, ap.get 5 rfl, ap.get 4 rfl⟩, ⟨[v17, v18, .int .u8 t16.Result, .bool t16.Reads, .int .i64 t16.Fuel, .int .i64 t16.Stack, .int .i64 t16.Heap, v19], _, rfl, ⟨_, _, _, rfl, ap.get 8 rfl, ap.get 3 rfl, ap.get 2 rfl⟩, ⟨[v28, v29, .int .u8 t27.Result, .bool t27.Reads, .int .i64 t27.Fuel, .int .i64 t27.Stack, .int .i64 t27.Heap, v30], _, rfl, ⟨_, _, _, rfl, ap.get 6 rfl, ap.get 1 rfl, ap.get 0 rfl⟩, rfl⟩⟩⟩) rfl rfl rfl (fun v38 => ?_)
 refine SP.have (fun w2 hw => slO.shape (St.own 1 rfl see.sub see.dj hw)) (fun hs_v36 => ?_)
 refine SP.have (fun w2 hw => slO.shape (St.own 0 rfl see.sub see.dj hw)) (fun hs_v38 => ?_)
 refine SP.val (Val.buildC (us := [(1, v36), (3, .int .i64 (-1)), (2, v38)]) (ucs := [(1, [v36]), (3, [.int .i64 (-1)]), (2, [v38])]) (cs := [(.slice none 0 0), v36, v38, .int .i64 (-1)]) bt25 rfl rfl ⟨rfl, one_cells hs_v36, ⟨rfl, rfl, ⟨rfl, one_cells hs_v38, trivial⟩⟩⟩ (by rfl)) rfl rfl rfl ?_
 refine SP.alloc (cs := [(.slice none 0 0), (.slice none 0 0), (.slice none 0 0), .int .i64 0]) inf25 rfl rfl (fun b40 => ?_)
 refine SP.have (fun w2 hw => slO.shape (St.own 2 rfl see.sub see.dj hw)) (fun hs_v36 => ?_)
 refine SP.have (fun w2 hw => slO.shape (St.own 1 rfl see.sub see.dj hw)) (fun hs_v38 => ?_)
 refine SP.store (v := .agg #[(.slice none 0 0), v36, v38, .int .i64 (-1)]) (vs := [(.slice none 0 0), v36, v38, .int .i64 (-1)]) 0 (by rfl) sz25 (by rfl) (by rfl) (by rfl) (by rfl) (one_cons rfl (one_cons hs_v36 (one_cons hs_v38 (one_cons rfl (rfl))))) (by rfl) (go ?_)
 refine SP.val (Val.loadA 0 rfl Tryz.underlying25 rfl sz25 rfl rfl rfl) rfl rfl rfl ?_
 obtain ⟨t42, hc, ho⟩ := bind_some ho
 refine SP.callKO see (caps := []) _ fn14 rfl rfl rfl rfl (fun w2 hs => cost_Costs.ok _ _ _ _ _ hc w2 (hp w2) (Sub.refl _) (slP.nil _ _) (slO.read (St.own 2 rfl see.sub see.dj hs) (Sub.refl _) (Sub.refl _)) (slO.read (St.own 1 rfl see.sub see.dj hs) (Sub.refl _) (Sub.refl _)) ((St.pers 13 rfl see.sub see.dj hs))) (fun v a a2 b ⟨v43, e, h⟩ => ⟨v43, e, (Sep.fcons (fun _ => slO.flip (fun _ _ _ _ h => h)) (fun _ => Sep.fnil)) h⟩) (SP.k1 fun v43 => ?_)
 clear hc
 refine go ?_
 refine SP.jn 4 [13] 52 (.bool ((decide (t42.2 = 0)) && (decide ((t42.1.length : Int) = 3)))) ?_ ?_
 ·refine go ?_
  obtain ⟨t51, hg_t51, ho⟩ := bind_some ho
  refine SP.jn 6 [13] 59 (.bool t51) ?_ ?_
  ·clear hg_t51
   refine go ?_
   obtain ⟨t56, hg_t56, ho⟩ := bind_some ho
   refine SP.jn 6 [13] 66 (.bool t56) ?_ ?_
   ·clear hg_t56
    refine go ?_
    obtain ⟨t61, hg_t61, ho⟩ := bind_some ho
    refine SP.jn 6 [] 73 (.bool t61) ?_ ?_
    ·clear hg_t61
     refine go ?_
     obtain rfl := Option.some.inj ho
     exact QE.rt (fun _ h => h)
    refine SP.cb 67 hg_t61 (fun hq58 ho => ?_) fun hq58 ho => ?_
    ·refine go ?_
     obtain ⟨x60, hx_x60, ho⟩ := elt_bind ho
     refine SP.indexW (fun w2 hw => slO.whole (St.own 0 rfl see.sub see.dj hw)) Tryz.underlying29 sz36 hx_x60.1 hx_x60.2 rfl rfl rfl rfl (fun p59 h_p59 => ?_)
     refine SP.val (Val.loadOA see 0 rfl hx_x60.2 h_p59 (fun _ _ e => e) Tryz.underlying36 rfl sz36 rfl) rfl rfl rfl ?_
     refine SP.val (Val.buildC (us := [(0, .int .i64 5), (1, .int .i64 2)]) (ucs := [(0, [.int .i64 5]), (1, [.int .i64 2])]) (cs := [.int .i64 5, .int .i64 2, .int .i64 0]) bt36 rfl rfl ⟨rfl, rfl, ⟨rfl, rfl, trivial⟩⟩ (by rfl)) rfl rfl rfl ?_
     refine SP.val (Val.eqlA (by kernel_rfl) (fun w2 => eqA36 9998 w2 x60.Fuel 5 x60.Stack 2 x60.Heap 0) rfl rfl) rfl rfl rfl (go ?_)
     obtain rfl := Option.some.inj ho
     exact QE.jn fun w2 hw => hw
    refine go ?_
    obtain rfl := Option.some.inj ho
    exact QE.jn fun w2 hw => hw
   refine SP.cb 60 hg_t56 (fun hq53 ho => ?_) fun hq53 ho => ?_
   ·refine go ?_
    obtain ⟨x55, hx_x55, ho⟩ := elt_bind ho
    refine SP.indexW (fun w2 hw => slO.whole (St.own 0 rfl see.sub see.dj hw)) Tryz.underlying29 sz36 hx_x55.1 hx_x55.2 rfl rfl rfl rfl (fun p54 h_p54 => ?_)
    refine SP.val (Val.loadOA see 0 rfl hx_x55.2 h_p54 (fun _ _ e => e) Tryz.underlying36 rfl sz36 rfl) rfl rfl rfl ?_
    refine SP.val (Val.buildC (us := [(0, .int .i64 15), (1, .int .i64 1), (2, .int .i64 12)]) (ucs := [(0, [.int .i64 15]), (1, [.int .i64 1]), (2, [.int .i64 12])]) (cs := [.int .i64 15, .int .i64 1, .int .i64 12]) bt36 rfl rfl ⟨rfl, rfl, ⟨rfl, rfl, ⟨rfl, rfl, trivial⟩⟩⟩ (by rfl)) rfl rfl rfl ?_
    refine SP.val (Val.eqlA (by kernel_rfl) (fun w2 => eqA36 9998 w2 x55.Fuel 15 x55.Stack 1 x55.Heap 12) rfl rfl) rfl rfl rfl (go ?_)
    obtain rfl := Option.some.inj ho
    exact QE.jn fun w2 hw => hw
   refine go ?_
   obtain rfl := Option.some.inj ho
   exact QE.jn fun w2 hw => hw
  refine SP.cb 53 hg_t51 (fun hq48 ho => ?_) fun hq48 ho => ?_
  ·refine go ?_
   obtain ⟨x50, hx_x50, ho⟩ := elt_bind ho
   refine SP.indexW (fun w2 hw => slO.whole (St.own 0 rfl see.sub see.dj hw)) Tryz.underlying29 sz36 hx_x50.1 hx_x50.2 rfl rfl rfl rfl (fun p49 h_p49 => ?_)
   refine SP.val (Val.loadOA see 0 rfl hx_x50.2 h_p49 (fun _ _ e => e) Tryz.underlying36 rfl sz36 rfl) rfl rfl rfl ?_
   refine SP.val (Val.buildC (us := [(0, .int .i64 2), (1, .int .i64 2)]) (ucs := [(0, [.int .i64 2]), (1, [.int .i64 2])]) (cs := [.int .i64 2, .int .i64 2, .int .i64 0]) bt36 rfl rfl ⟨rfl, rfl, ⟨rfl, rfl, trivial⟩⟩ (by rfl)) rfl rfl rfl ?_
   refine SP.val (Val.eqlA (by kernel_rfl) (fun w2 => eqA36 9998 w2 x50.Fuel 2 x50.Stack 2 x50.Heap 0) rfl rfl) rfl rfl rfl (go ?_)
   obtain rfl := Option.some.inj ho
   exact QE.jn fun w2 hw => hw
  refine go ?_
  obtain rfl := Option.some.inj ho
  exact QE.jn fun w2 hw => hw
 refine SP.bb 48 (fun hq46 => ?_) fun hq46 => ?_
 ·refine go ?_
  refine SP.val (Val.lenW (fun w2 hw => slO.whole (St.own 0 rfl see.sub see.dj hw)) Tryz.underlying29 rfl) rfl rfl rfl (go ?_)
  exact QE.jb (and_t hq46 rfl) fun w2 hw => hw
 refine go ?_
 exact QE.jb (and_f hq46) fun w2 hw => hw
def capstanlaw07_Great.f (m_0 : api_Method) : Option Bool :=
  some ((decide ((m_0.Args.length : Int) > 100)) || (decide ((m_0.Locals.length : Int) > 100)))
theorem capstanlaw07_Great.ok (m_0 : api_Method) (v_m_0_Args v_m_0_Locals v_m_0_Code : Value) (r : Bool) (H : capstanlaw07_Great.f m_0 = some r) (w : World) (hV : Hp) (sV : Sub hV (hp w)) (h0 : slR (kInt .u8) hV v_m_0_Args m_0.Args) (h1 : slR (kInt .u8) hV v_m_0_Locals m_0.Locals) (h2 : slR k_api_Instr hV v_m_0_Code m_0.Code) :
    Trip Tryz.prog 24 [.agg #[v_m_0_Args, v_m_0_Locals, .int .u8 m_0.Result, .bool m_0.Reads, .int .i64 m_0.Fuel, .int .i64 m_0.Stack, .int .i64 m_0.Heap, v_m_0_Code]].toArray em hV w (fun v => HO.pure (v = .bool r)) := by
 refine Trip.go 13 Tryz.func24 sV (aS h0 (aS h1 (aS h2 (All.nil _)))) fun see => ?_
 have ho := H
 refine go ?_
 refine SP.box rfl rfl rfl rfl fun b4 => go ?_
 refine SP.jn 5 [] 12 (.bool ((decide ((m_0.Args.length : Int) > 100)) || (decide ((m_0.Locals.length : Int) > 100)))) ?_ ?_
 ·refine go ?_
  obtain rfl := Option.some.inj ho
  exact QE.rt (fun _ h => h)
 refine SP.bb 7 (fun hq7 => ?_) fun hq7 => ?_
 ·refine go ?_
  exact QE.jb (or_t hq7) fun w2 hw => hw
 refine go ?_
 exact QE.jb (or_f hq7 rfl) fun w2 hw => hw
inductive capstanlaw08_Great.S where
  | start
  | l1 (x31 : Int)
def capstanlaw08_Great.F (m_0 : api_Module) : capstanlaw08_Great.S → Option (capstanlaw08_Great.S ⊕ Bool)
  | .start => if (((decide ((m_0.Globals.length : Int) > 100)) || (decide ((m_0.Pool.length : Int) > 100))) || (decide ((m_0.Methods.length : Int) > 40))) = true then (some (.inr true)) else (some (.inl (.l1 0)))
  | .l1 x31 => if x31 < (m_0.Methods.length : Int) then ((elt m_0.Methods x31).bind fun x35 => (capstanlaw07_Great.f x35).bind fun t42 => (if t42 = true then (some true) else ((elt m_0.Methods x31).bind fun x47 => some (decide ((x47.Code.length : Int) > 300)))).bind fun t52 => if t52 = true then (some (.inr true)) else (some (.inl (.l1 (IntKind.i64.wrap (x31 + 1)))))) else (some (.inr false))
def capstanlaw08_Great.f (m_0 : api_Module) : Option Bool := runF (capstanlaw08_Great.F m_0) .start
theorem capstanlaw08_Great.ok (m_0 : api_Module) (v_m_0_Globals v_m_0_Pool v_m_0_Methods : Value) (r : Bool) (H : capstanlaw08_Great.f m_0 = some r) (w : World) (hV : Hp) (sV : Sub hV (hp w)) (h0 : slR k_api_Value hV v_m_0_Globals m_0.Globals) (h1 : slR k_api_Value hV v_m_0_Pool m_0.Pool) (h2 : slR k_api_Method hV v_m_0_Methods m_0.Methods) :
    Trip Tryz.prog 12 [.agg #[v_m_0_Globals, v_m_0_Pool, v_m_0_Methods, .int .i64 m_0.Migrate]].toArray em hV w (fun v => HO.pure (v = .bool r)) := by
 refine Trip.go 43 Tryz.func12 sV (aS h0 (aS h1 (aS h2 (All.nil _)))) fun see => ?_
 obtain ⟨n0, hi⟩ := runF_iff.1 H
 obtain ⟨m0, o, hm0, ho, hr⟩ := iter_some hi
 clear hi
 refine go ?_
 refine SP.box rfl rfl rfl rfl fun b4 => go ?_
 refine CP.seq (go ?_)
 refine SP.jn 5 [1] 13 (.bool ((decide ((m_0.Globals.length : Int) > 100)) || (decide ((m_0.Pool.length : Int) > 100)))) ?_ ?_
 ·refine go ?_
  refine SP.jn 5 [1] 19 (.bool (((decide ((m_0.Globals.length : Int) > 100)) || (decide ((m_0.Pool.length : Int) > 100))) || (decide ((m_0.Methods.length : Int) > 40)))) ?_ ?_
  ·refine go ?_
   refine CP.cb ho (fun ho => ?_) fun ho => ?_
   ·refine go ?_
    obtain rfl := fin ho hr
    exact QE.rt (fun _ h => h)
   refine go ?_
   refine CP.seq (go ?_)
   obtain rfl := Option.some.inj ho
   refine CP.loop (fun cl1 a w2 => ∃ x31 : Int, cl1 ≤ m0 ∧ iter (capstanlaw08_Great.F m_0) cl1 (.l1 x31) = some r ∧ Env ⟨43, []⟩ [(1, .pointer (some ⟨b4, 0, none⟩)), (3, .int .i64 x31)] a ∧ St w em hV [slP k_api_Value v_m_0_Globals m_0.Globals, slP k_api_Value v_m_0_Pool m_0.Pool, slP k_api_Method v_m_0_Methods m_0.Methods] [boxO b4 [v_m_0_Globals, v_m_0_Pool, v_m_0_Methods, .int .i64 m_0.Migrate] 25] w2) m0 (fun a w2 ha hw => ⟨0, Nat.le_refl _, hr, ha.sub sb, hw⟩) ?_
   clear hr
   rintro cl1 a w2 ⟨x31, hc_l1, hi, ha, hw⟩
   obtain ⟨m32, o, hm_m32, ho, hr⟩ := iter_some hi
   refine CP.app ha hw ?_
   clear ha hw a w2 hi
   refine CP.seq (go ?_)
   refine CP.ci ho (fun ho => ?_) fun ho => ?_
   ·refine go ?_
    refine CP.seq (go ?_)
    obtain ⟨x35, hx, ho⟩ := elt_bind ho
    refine SP.indexP see 2 rfl Tryz.underlying23 sz41 hx.1 hx.2 rfl rfl rfl rfl (fun p33 => ?_)
    clear hx
    refine k_api_Method.load see 0 rfl Tryz.underlying41 rfl sz41 rfl rfl rfl (fun v36 v38 v40 => ?_)
    obtain ⟨t42, hc, ho⟩ := bind_some ho
    refine SP.callV see (caps := []) (.bool t42) fn24 rfl rfl rfl rfl (fun w2 hP hs sub ap => capstanlaw07_Great.ok _ _ _ _ _ hc w2 hP sub (ap.get 0 rfl) (ap.get 1 rfl) (ap.get 2 rfl)) ?_
    clear hc
    refine go ?_
    obtain ⟨t52, hg_t52, ho⟩ := bind_some ho
    refine SP.jn 9 [1, 3] 42 (.bool t52) ?_ ?_
    ·clear hg_t52
     refine go ?_
     refine CP.cb ho (fun ho => ?_) fun ho => ?_
     ·refine go ?_
      obtain rfl := fin ho hr
      exact QE.rt (fun _ h => h)
     refine go ?_
     obtain rfl := Option.some.inj ho
     exact QE.lower m32 (by omega) fun a w2 ha hw => ⟨(IntKind.i64.wrap (x31 + 1)), (by omega), hr, ha.sub sb, (St.selP [4, 5, 6] rfl hw)⟩
    refine SP.cb 33 hg_t52 (fun hq44 ho => ?_) fun hq44 ho => ?_
    ·refine go ?_
     obtain rfl := Option.some.inj ho
     exact QE.jn fun w2 hw => hw
    refine go ?_
    obtain ⟨x47, hx, ho⟩ := elt_bind ho
    refine SP.indexP see 6 rfl Tryz.underlying23 sz41 hx.1 hx.2 rfl rfl rfl rfl (fun p45 => ?_)
    clear hx
    refine SP.fieldP see 0 rfl Tryz.underlying41 rfl sz39 k_api_Method.part_Code rfl rfl rfl (fun p48 => ?_)
    refine SP.loadPS see 0 rfl Tryz.underlying39 rfl rfl rfl (fun v50 => go ?_)
    obtain rfl := Option.some.inj ho
    exact QE.jn fun w2 hw => (St.selP [3, 4, 5, 6, 7, 8, 9] rfl hw)
   refine go ?_
   obtain rfl := fin ho hr
   exact QE.rt (fun _ h => h)
  refine SP.bb 14 (fun hq9 => ?_) fun hq9 => ?_
  ·refine go ?_
   exact QE.jb (or_t hq9) fun w2 hw => hw
  refine go ?_
  exact QE.jb (or_f hq9 rfl) fun w2 hw => hw
 refine SP.bb 8 (fun hq7 => ?_) fun hq7 => ?_
 ·refine go ?_
  exact QE.jb (or_t hq7) fun w2 hw => hw
 refine go ?_
 exact QE.jb (or_f hq7 rfl) fun w2 hw => hw
inductive capstanlaw12_known.S where
  | start
  | l1 (t13 : (List api_Cert) × Int) (l49 : List (List types_Row)) (x51 : Int)
def capstanlaw12_known.F (m_0 : api_Module) (k_1 : Int) : capstanlaw12_known.S → Option (capstanlaw12_known.S ⊕ ((List (List types_Row)) × (List api_Cert) × Bool))
  | .start => (capstanlaw08_Great.f m_0).bind fun t6 => if ((t6 || (decide (k_1 < 0))) || (decide (k_1 ≥ (m_0.Methods.length : Int)))) = true then (some (.inr ([], [], false))) else ((cost_Costs.f m_0).bind fun t13 => (if ((decide (t13.2 ≠ 0)) || (decide ((t13.1.length : Int) ≠ (m_0.Methods.length : Int)))) = true then (some true) else ((elt t13.1 k_1).bind fun x21 => some (decide (x21.Fuel > 5000)))).bind fun t23 => if t23 = true then (some (.inr ([], [], false))) else (some (.inl (.l1 t13 [] 0))))
  | .l1 t13 l49 x51 => if x51 < (m_0.Methods.length : Int) then ((types_Rows.f m_0 x51).bind fun t53 => (if t53.2 ≠ 0 then (some true) else ((elt m_0.Methods x51).bind fun x60 => some (decide ((t53.1.length : Int) ≠ (x60.Code.length : Int))))).bind fun t65 => if t65 = true then (some (.inr ([], [], false))) else (if (l49.length + [t53.1].length) * 24 ≤ 140737488355328 then (some (.inl (.l1 t13 (l49 ++ [t53.1]) (IntKind.i64.wrap (x51 + 1))))) else none)) else (some (.inr (l49, t13.1, true)))
def capstanlaw12_known.f (m_0 : api_Module) (k_1 : Int) : Option ((List (List types_Row)) × (List api_Cert) × Bool) := runF (capstanlaw12_known.F m_0 k_1) .start
theorem capstanlaw12_known.ok (m_0 : api_Module) (k_1 : Int) (v_m_0_Globals v_m_0_Pool v_m_0_Methods : Value)  (r : (List (List types_Row)) × (List api_Cert) × Bool) (H : capstanlaw12_known.f m_0 k_1 = some r) (w : World) (hV : Hp) (sV : Sub hV (hp w)) (h0 : slR k_api_Value hV v_m_0_Globals m_0.Globals) (h1 : slR k_api_Value hV v_m_0_Pool m_0.Pool) (h2 : slR k_api_Method hV v_m_0_Methods m_0.Methods) (h3 : (arrP k_arr221 0 tab0).p hV) :
    Trip Tryz.prog 9 [.agg #[v_m_0_Globals, v_m_0_Pool, v_m_0_Methods, .int .i64 m_0.Migrate], .int .i64 k_1].toArray em hV w (fun v => HO.ex fun u0 : Value => HO.ex fun u1 : Value => HO.pand (v = .tuple #[u0, u1, .bool r.2.2]) (HO.seps [slO (kSl k_types_Row) 63 u0 r.1, slO k_api_Cert 36 u1 r.2.1])) := by
 refine Trip.go 82 Tryz.func9 sV (aS h0 (aS h1 (aS h2 (All.cons (x := arrP k_arr221 0 tab0) h3 (All.nil _))))) fun see => ?_
 obtain ⟨n0, hi⟩ := runF_iff.1 H
 obtain ⟨m0, o, hm0, ho, hr⟩ := iter_some hi
 clear hi
 refine go ?_
 refine SP.box rfl rfl rfl rfl fun b4 => go ?_
 refine CP.seq (go ?_)
 refine SP.val (Val.loadA 0 rfl Tryz.underlying25 rfl sz25 rfl rfl rfl) rfl rfl rfl ?_
 obtain ⟨t6, hc, ho⟩ := bind_some ho
 refine SP.callV see (caps := []) (.bool t6) fn12 rfl rfl rfl rfl (fun w2 hP hs sub ap => capstanlaw08_Great.ok _ _ _ _ _ hc w2 hP sub (ap.get 0 rfl) (ap.get 1 rfl) (ap.get 2 rfl)) ?_
 clear hc
 refine go ?_
 refine SP.jn 3 [1, 2] 18 (.bool (t6 || (decide (k_1 < 0)))) ?_ ?_
 ·refine go ?_
  refine SP.jn 6 [1, 2] 25 (.bool ((t6 || (decide (k_1 < 0))) || (decide (k_1 ≥ (m_0.Methods.length : Int))))) ?_ ?_
  ·refine go ?_
   refine CP.cb ho (fun ho => ?_) fun ho => ?_
   ·refine go ?_
    obtain rfl := fin ho hr
    exact QE.rt (fun _ h => St.selO [1, 0] rfl rfl (St.addO (slO.nil k_api_Cert 36) (St.addO (slO.nil (kSl k_types_Row) 63) h)))
   refine go ?_
   refine SP.val (Val.loadA 0 rfl Tryz.underlying25 rfl sz25 rfl rfl rfl) rfl rfl rfl ?_
   obtain ⟨t13, hc, ho⟩ := bind_some ho
   refine SP.callK see (caps := []) _ fn14 rfl rfl rfl rfl (fun w2 hP hs sub ap => cost_Costs.ok _ _ _ _ _ hc w2 hP sub (ap.get 0 rfl) (ap.get 1 rfl) (ap.get 2 rfl) (ap.get 3 rfl)) (SP.k1 fun v14 => ?_)
   clear hc
   refine go ?_
   refine CP.seq (go ?_)
   refine SP.jn 7 [1, 2, 7] 40 (.bool ((decide (t13.2 ≠ 0)) || (decide ((t13.1.length : Int) ≠ (m_0.Methods.length : Int))))) ?_ ?_
   ·refine go ?_
    obtain ⟨t23, hg_t23, ho⟩ := bind_some ho
    refine SP.jn 7 [2, 7] 48 (.bool t23) ?_ ?_
    ·clear hg_t23
     refine go ?_
     refine CP.cb ho (fun ho => ?_) fun ho => ?_
     ·refine go ?_
      obtain rfl := fin ho hr
      exact QE.rt (fun _ h => St.selO [1, 0] rfl rfl (St.addO (slO.nil k_api_Cert 36) (St.addO (slO.nil (kSl k_types_Row) 63) h)))
     refine go ?_
     refine CP.seq (go ?_)
     obtain rfl := Option.some.inj ho
     refine CP.loop (fun cl1 a w2 => ∃ l49 : List (List types_Row), ∃ x51 : Int, ∃ v50 : Value, cl1 ≤ m0 ∧ iter (capstanlaw12_known.F m_0 k_1) cl1 (.l1 t13 l49 x51) = some r ∧ Env ⟨82, []⟩ [(2, .pointer (some ⟨b4, 0, none⟩)), (7, v14), (9, v50), (10, .int .i64 x51)] a ∧ St w em hV [slP k_api_Value v_m_0_Globals m_0.Globals, slP k_api_Value v_m_0_Pool m_0.Pool, slP k_api_Method v_m_0_Methods m_0.Methods, arrP k_arr221 0 tab0] [slO (kSl k_types_Row) 63 v50 l49, slO k_api_Cert 36 v14 t13.1, boxO b4 [v_m_0_Globals, v_m_0_Pool, v_m_0_Methods, .int .i64 m_0.Migrate] 25] w2) m0 (fun a w2 ha hw => ⟨[], 0, (.slice none 0 0), Nat.le_refl _, hr, ha.sub sb, (St.addO (slO.nil (kSl k_types_Row) 63) hw)⟩) ?_
     clear hr
     rintro cl1 a w2 ⟨l49, x51, v50, hc_l1, hi, ha, hw⟩
     obtain ⟨m52, o, hm_m52, ho, hr⟩ := iter_some hi
     refine CP.app ha hw ?_
     clear ha hw a w2 hi
     refine CP.seq (go ?_)
     refine CP.ci ho (fun ho => ?_) fun ho => ?_
     ·refine go ?_
      refine CP.seq (go ?_)
      refine SP.val (Val.loadA 2 rfl Tryz.underlying25 rfl sz25 rfl rfl rfl) rfl rfl rfl (go ?_)
      obtain ⟨t53, hc, ho⟩ := bind_some ho
      refine SP.callK see (caps := []) _ fn22 rfl rfl rfl rfl (fun w2 hP hs sub ap => types_Rows.ok _ _ _ _ _ _ hc w2 hP sub (ap.get 0 rfl) (ap.get 1 rfl) (ap.get 2 rfl) (ap.get 3 rfl)) (SP.k1 fun v54 => ?_)
      clear hc
      refine go ?_
      refine CP.seq (go ?_)
      obtain ⟨t65, hg_t65, ho⟩ := bind_some ho
      refine SP.jn 11 [2, 7, 9, 10, 11] 75 (.bool t65) ?_ ?_
      ·clear hg_t65
       refine go ?_
       refine CP.cb ho (fun ho => ?_) fun ho => ?_
       ·refine go ?_
        obtain rfl := fin ho hr
        exact QE.rt (fun _ h => St.selO [1, 0] rfl rfl (St.addO (slO.nil k_api_Cert 36) (St.addO (slO.nil (kSl k_types_Row) 63) h)))
       refine go ?_
       refine SP.freezeS see 0 rfl ?_
       refine SP.litS (k := (kSl k_types_Row)) (xs := [t53.1]) (vs := [v54]) Tryz.underlying28 inf63 rfl rfl rfl rfl rfl rfl (fun _ ap => ⟨slR.cells1 (ap.get 0 rfl), trivial⟩) (fun _ ap => ⟨[v54], _, rfl, ⟨_, rfl, ap.get 0 rfl⟩, rfl⟩) rfl rfl rfl (fun v68 => ?_)
       refine SP.freezeS see 0 rfl ?_
       obtain ⟨hb, ho⟩ := must_some ho
       refine SP.append see 0 rfl 0 rfl Tryz.underlying28 inf63 rfl rfl hb rfl rfl rfl rfl rfl (fun v70 => ?_)
       clear hb
       refine go ?_
       obtain rfl := Option.some.inj ho
       exact QE.lower m52 (by omega) fun a w2 ha hw => ⟨(l49 ++ [t53.1]), (IntKind.i64.wrap (x51 + 1)), v70, (by omega), hr, ha.sub sb, (St.selP [2, 3, 4, 5] rfl hw)⟩
      refine SP.ci 64 hg_t65 (fun hq57 ho => ?_) fun hq57 ho => ?_
      ·refine go ?_
       obtain rfl := Option.some.inj ho
       exact QE.jn fun w2 hw => hw
      refine go ?_
      refine SP.val (Val.lenW (fun w2 hw => slO.whole (St.own 0 rfl see.sub see.dj hw)) Tryz.underlying63 rfl) rfl rfl rfl (go ?_)
      obtain ⟨x60, hx, ho⟩ := elt_bind ho
      refine SP.indexP see 2 rfl Tryz.underlying23 sz41 hx.1 hx.2 rfl rfl rfl rfl (fun p58 => ?_)
      clear hx
      refine SP.fieldP see 0 rfl Tryz.underlying41 rfl sz39 k_api_Method.part_Code rfl rfl rfl (fun p61 => ?_)
      refine SP.loadPS see 0 rfl Tryz.underlying39 rfl rfl rfl (fun v63 => go ?_)
      obtain rfl := Option.some.inj ho
      exact QE.jn fun w2 hw => (St.selP [3, 4, 5, 6] rfl hw)
     refine go ?_
     obtain rfl := fin ho hr
     exact QE.rt (fun _ h => St.selO [0, 1] rfl rfl h)
    refine SP.cb 41 hg_t23 (fun hq19 ho => ?_) fun hq19 ho => ?_
    ·refine go ?_
     obtain rfl := Option.some.inj ho
     exact QE.jn fun w2 hw => hw
    refine go ?_
    obtain ⟨x21, hx_x21, ho⟩ := elt_bind ho
    refine SP.indexW (fun w2 hw => slO.whole (St.own 0 rfl see.sub see.dj hw)) Tryz.underlying29 sz36 hx_x21.1 hx_x21.2 rfl rfl rfl rfl (fun p20 h_p20 => ?_)
    refine SP.fieldO h_p20 Tryz.underlying36 rfl sz3 rfl rfl rfl (fun p22 h_p22 => ?_)
    refine SP.val (Val.loadW1 (off := 0) (k := k_api_Cert) (fun w2 hw => slO.whole (St.own 0 rfl see.sub see.dj hw)) hx_x21.2 h_p22 (fun _ _ e => by subst e; rfl) Tryz.underlying3 rfl rfl) rfl rfl rfl (go ?_)
    obtain rfl := Option.some.inj ho
    exact QE.jn fun w2 hw => hw
   refine SP.bb 33 (fun hq17 => ?_) fun hq17 => ?_
   ·refine go ?_
    exact QE.jb (or_t hq17) fun w2 hw => hw
   refine go ?_
   refine SP.val (Val.lenW (fun w2 hw => slO.whole (St.own 0 rfl see.sub see.dj hw)) Tryz.underlying29 rfl) rfl rfl rfl (go ?_)
   exact QE.jb (or_f hq17 rfl) fun w2 hw => hw
  refine SP.bb 19 (fun hq10 => ?_) fun hq10 => ?_
  ·refine go ?_
   exact QE.jb (or_t hq10) fun w2 hw => hw
  refine go ?_
  exact QE.jb (or_f hq10 rfl) fun w2 hw => hw
 refine SP.bb 15 (fun hq8 => ?_) fun hq8 => ?_
 ·refine go ?_
  exact QE.jb (or_t hq8) fun w2 hw => hw
 refine go ?_
 exact QE.jb (or_f hq8 rfl) fun w2 hw => hw
def calls_Check.f (m_0 : api_Module) : Option Int :=
  (calls_Order.f m_0).bind fun t6 => some t6.2
theorem calls_Check.ok (m_0 : api_Module) (v_m_0_Globals v_m_0_Pool v_m_0_Methods : Value) (r : Int) (H : calls_Check.f m_0 = some r) (w : World) (hV : Hp) (sV : Sub hV (hp w)) (h0 : slR k_api_Value hV v_m_0_Globals m_0.Globals) (h1 : slR k_api_Value hV v_m_0_Pool m_0.Pool) (h2 : slR k_api_Method hV v_m_0_Methods m_0.Methods) :
    Trip Tryz.prog 37 [.agg #[v_m_0_Globals, v_m_0_Pool, v_m_0_Methods, .int .i64 m_0.Migrate]].toArray em hV w (fun v => HO.pure (v = .int .i64 r)) := by
 refine Trip.go 11 Tryz.func37 sV (aS h0 (aS h1 (aS h2 (All.nil _)))) fun see => ?_
 have ho := H
 refine go ?_
 refine SP.box rfl rfl rfl rfl fun b4 => go ?_
 refine SP.val (Val.loadA 0 rfl Tryz.underlying25 rfl sz25 rfl rfl rfl) rfl rfl rfl ?_
 obtain ⟨t6, hc, ho⟩ := bind_some ho
 refine SP.callK see (caps := []) _ fn27 rfl rfl rfl rfl (fun w2 hP hs sub ap => calls_Order.ok _ _ _ _ _ hc w2 hP sub (ap.get 0 rfl) (ap.get 1 rfl) (ap.get 2 rfl)) (SP.k1 fun v7 => ?_)
 clear hc
 refine go ?_
 obtain rfl := Option.some.inj ho
 exact QE.rt (fun _ h => h)
theorem srtv39_trip {v : Value} {l : List Int} (hll : l.length < 4611686018427387904) {w : World} {hP h1 : Hp} (sub : Sub hP (hp w)) (s1 : Sub h1 (hp w)) (dj : Dj hP h1) (hI : (slV 3 v l).p hP h1) :
    Trip Tryz.prog 39 #[v] h1 hP w (fun r => HO.pand (r = .tuple #[]) (HO.seps [slV 3 v (l.mergeSort fun x y => decide (x ≤ y))])) :=
  slV.sortTrip (fun blk off cap zs w hH hb hsz => AnyM.slices_Sort_int Tryz.sorti39 blk off cap zs w hH hb hsz) (fun w => AnyM.slices_Sort_int_none Tryz.sorti39 none 0 w) hll sub s1 dj hI
theorem compactv40_trip {v : Value} {l : List Int} (hll : l.length < 4611686018427387904) {w : World} {hP h1 : Hp} (sub : Sub hP (hp w)) (s1 : Sub h1 (hp w)) (dj : Dj hP h1) (hI : (slV 3 v l).p hP h1) :
    Trip Tryz.prog 40 #[v] h1 hP w (fun r => HO.ex fun u : Value => HO.pand (r = u) (HO.seps [slV 3 u (Lib.compact l)])) :=
  slV.compactTrip (fun blk off cap zs w hH hsz hcap => AnyG.slices_Compact_int Tryz.compacti40 blk off cap zs w hH hsz hcap) (fun w => AnyG.slices_Compact_int_empty Tryz.compacti40 none 0 w) hll sub s1 dj hI
inductive calls_Leads.S where
  | start
  | l1 (l34 : List Int) (l37 : List Int)
def calls_Leads.F (m_0 : api_Module) (k_1 : Int) : calls_Leads.S → Option (calls_Leads.S ⊕ ((List Int) × Int))
  | .start => (calls_Check.f m_0).bind fun t6 => if t6 ≠ 0 then (some (.inr ([], t6))) else (if ((decide (k_1 < 0)) || (decide (k_1 ≥ (m_0.Methods.length : Int)))) = true then (some (.inr ([], 2))) else (some (.inl (.l1 [] [k_1]))))
  | .l1 l34 l37 => if (l37.length : Int) > 0 then ((elt l37 0).bind fun x41 => (calls_Whom.f m_0 x41).bind fun t42 => if (0 : Int) ≤ 1 ∧ 1 ≤ (l37.length : Int) then (if ((l37.drop (1 : Int).toNat).length + t42.1.length) * 8 ≤ 140737488355328 then (if (l34.length + t42.1.length) * 8 ≤ 140737488355328 then (if ((l37.drop (1 : Int).toNat) ++ t42.1).length < 4611686018427387904 then (if (((l37.drop (1 : Int).toNat) ++ t42.1).mergeSort fun x y => decide (x ≤ y)).length < 4611686018427387904 then (some (.inl (.l1 (l34 ++ t42.1) (Lib.compact (((l37.drop (1 : Int).toNat) ++ t42.1).mergeSort fun x y => decide (x ≤ y)))))) else none) else none) else none) else none) else none) else (if l34.length < 4611686018427387904 then (if (l34.mergeSort fun x y => decide (x ≤ y)).length < 4611686018427387904 then (some (.inr ((Lib.compact (l34.mergeSort fun x y => decide (x ≤ y))), 0))) else none) else none)
def calls_Leads.f (m_0 : api_Module) (k_1 : Int) : Option ((List Int) × Int) := runF (calls_Leads.F m_0 k_1) .start
theorem calls_Leads.ok (m_0 : api_Module) (k_1 : Int) (v_m_0_Globals v_m_0_Pool v_m_0_Methods : Value) (r : (List Int) × Int) (H : calls_Leads.f m_0 k_1 = some r) (w : World) (hV : Hp) (sV : Sub hV (hp w)) (h0 : slR k_api_Value hV v_m_0_Globals m_0.Globals) (h1 : slR k_api_Value hV v_m_0_Pool m_0.Pool) (h2 : slR k_api_Method hV v_m_0_Methods m_0.Methods) :
    Trip Tryz.prog 19 [.agg #[v_m_0_Globals, v_m_0_Pool, v_m_0_Methods, .int .i64 m_0.Migrate], .int .i64 k_1].toArray em hV w (fun v => HO.ex fun u0 : Value => HO.pand (v = .tuple #[u0, .int .i64 r.2]) (HO.seps [slO (kInt .i64) 3 u0 r.1])) := by
 refine Trip.go 53 Tryz.func19 sV (aS h0 (aS h1 (aS h2 (All.nil _)))) fun see => ?_
 obtain ⟨n0, hi⟩ := runF_iff.1 H
 obtain ⟨m0, o, hm0, ho, hr⟩ := iter_some hi
 clear hi
 refine go ?_
 refine SP.box rfl rfl rfl rfl fun b4 => go ?_
 refine CP.seq (go ?_)
 refine SP.val (Val.loadA 0 rfl Tryz.underlying25 rfl sz25 rfl rfl rfl) rfl rfl rfl ?_
 obtain ⟨t6, hc, ho⟩ := bind_some ho
 refine SP.callV see (caps := []) (.int .i64 t6) fn37 rfl rfl rfl rfl (fun w2 hP hs sub ap => calls_Check.ok _ _ _ _ _ hc w2 hP sub (ap.get 0 rfl) (ap.get 1 rfl) (ap.get 2 rfl)) ?_
 clear hc
 refine go ?_
 refine CP.ci ho (fun ho => ?_) fun ho => ?_
 ·refine go ?_
  obtain rfl := fin ho hr
  exact QE.rt (fun _ h => St.selO [0] rfl rfl (St.addO (slO.nil (kInt .i64) 3) h))
 refine go ?_
 refine CP.seq (go ?_)
 refine SP.jn 6 [1, 2] 24 (.bool ((decide (k_1 < 0)) || (decide (k_1 ≥ (m_0.Methods.length : Int))))) ?_ ?_
 ·refine go ?_
  refine CP.cb ho (fun ho => ?_) fun ho => ?_
  ·refine go ?_
   obtain rfl := fin ho hr
   exact QE.rt (fun _ h => St.selO [0] rfl rfl (St.addO (slO.nil (kInt .i64) 3) h))
  refine go ?_
  refine CP.seq (go ?_)
  refine SP.lit (k := (kInt .i64)) (xs := [k_1]) (vs := [.int .i64 k_1]) (cells := [.int .i64 k_1]) Tryz.underlying55 inf3 rfl rfl rfl rfl rfl rfl rfl rfl (fun _ ap => ⟨[.int .i64 k_1], _, rfl, rfl, rfl⟩) rfl rfl rfl (fun v11 => ?_)
  refine SP.imp (fun w2 hw => St.toV hw) (go ?_)
  obtain rfl := Option.some.inj ho
  refine CP.loop (fun cl1 a w2 => ∃ l34 : List Int, ∃ l37 : List Int, ∃ v35 : Value, ∃ v38 : Value, cl1 ≤ m0 ∧ iter (calls_Leads.F m_0 k_1) cl1 (.l1 l34 l37) = some r ∧ Env ⟨53, []⟩ [(2, .pointer (some ⟨b4, 0, none⟩)), (7, v35), (8, v38)] a ∧ St w em hV [slP k_api_Value v_m_0_Globals m_0.Globals, slP k_api_Value v_m_0_Pool m_0.Pool, slP k_api_Method v_m_0_Methods m_0.Methods] [slV 3 v38 l37, slO (kInt .i64) 3 v35 l34, boxO b4 [v_m_0_Globals, v_m_0_Pool, v_m_0_Methods, .int .i64 m_0.Migrate] 25] w2) m0 (fun a w2 ha hw => ⟨[], [k_1], (.slice none 0 0), v11, Nat.le_refl _, hr, ha.sub sb, (St.selO [1, 0, 2] rfl rfl (St.addO (slO.nil (kInt .i64) 3) hw))⟩) ?_
  clear hr
  rintro cl1 a w2 ⟨l34, l37, v35, v38, hc_l1, hi, ha, hw⟩
  obtain ⟨m39, o, hm_m39, ho, hr⟩ := iter_some hi
  refine CP.app ha hw ?_
  clear ha hw a w2 hi
  refine CP.seq (go ?_)
  refine SP.val (Val.lenV (fun w2 hw => (St.own 0 rfl see.sub see.dj hw)) Tryz.underlying55 rfl) rfl rfl rfl (go ?_)
  refine CP.ci ho (fun ho => ?_) fun ho => ?_
  ·refine go ?_
   refine CP.seq ?_
   refine CP.drawA (by kernel_rfl) (fun w2 k h => h.drawn k) ?_
   obtain ⟨x41, hx_x41, ho⟩ := elt_bind ho
   refine DA.ghost (fun w2 hw => let ⟨z, hz⟩ := ixV ((fun w2 hw => (St.own 0 rfl see.sub see.dj hw)) w2 hw) hx_x41.1 hx_x41.2; ⟨z, hz, hw⟩) (fun p40 i_p40 => ?_)
   have h_p40 := i_p40.1
   refine DA.ph 0 4 ?_
   refine DT.tv 0 rfl (Val.loadA 2 rfl Tryz.underlying25 rfl sz25 rfl rfl rfl) ?_
   refine DT.tk 1 ?_
   refine DT.tv 2 rfl (Val.indexV i_p40 Tryz.underlying55 sz3 rfl rfl) ?_
   refine DT.tv 3 rfl (Val.loadV (fun w2 hw => (St.own 0 rfl see.sub see.dj hw)) hx_x41.2 h_p40 Tryz.underlying3 rfl rfl) ?_
   refine DT.next (by kernel_rfl) ?_
   refine DA.one 4 rfl (by kernel_rfl) ?_
   obtain ⟨t42, hc, ho⟩ := bind_some ho
   refine SP.callK see (caps := []) _ fn38 rfl rfl rfl rfl (fun w2 hP hs sub ap => calls_Whom.ok _ _ _ _ _ _ hc w2 hP sub (ap.get 0 rfl) (ap.get 1 rfl) (ap.get 2 rfl)) (SP.k1 fun v43 => ?_)
   clear hc
   refine go ?_
   refine QE.atA ?_
   refine DA.one 5 rfl (by kernel_rfl) (go ?_)
   refine QE.atA ?_
   refine DA.ph 6 9 ?_
   refine DT.tk 6 ?_
   refine DT.tk 7 ?_
   refine DT.tk 8 ?_
   refine DT.next (by kernel_rfl) ?_
   refine DA.one 9 rfl (by kernel_rfl) (go ?_)
   refine QE.atA ?_
   refine DA.done (by kernel_rfl) (go ?_)
   obtain ⟨hz, ho⟩ := must_some ho
   refine SP.dropV see 1 rfl Tryz.underlying55 sz3 rfl rfl hz rfl rfl (fun v45 => ?_)
   clear hz
   refine go ?_
   refine SP.freezeS see 0 rfl ?_
   obtain ⟨hb, ho⟩ := must_some ho
   refine SP.appendV see 0 rfl 0 rfl Tryz.underlying55 inf3 rfl rfl hb rfl rfl rfl rfl rfl (fun v47 => ?_)
   clear hb
   refine go ?_
   obtain ⟨hb, ho⟩ := must_some ho
   refine SP.append see 1 rfl 0 rfl Tryz.underlying55 inf3 rfl rfl hb rfl rfl rfl rfl rfl (fun v49 => ?_)
   clear hb
   refine go ?_
   obtain ⟨hb, ho⟩ := must_some ho
   refine SP.callA see (caps := []) (fun r => HO.pand (r = .tuple #[]) (HO.seps [slV 3 v47 (((l37.drop (1 : Int).toNat) ++ t42.1).mergeSort fun x y => decide (x ≤ y))])) fn39 rfl rfl rfl rfl (fun w2 hP h1 sub s1 d1 ap hI => srtv39_trip hb sub s1 d1 hI) (SP.k0 ?_)
   clear hb
   refine go ?_
   obtain ⟨hb, ho⟩ := must_some ho
   refine SP.callA see (caps := []) (fun r => HO.ex fun u : Value => HO.pand (r = u) (HO.seps [slV 3 u (Lib.compact (((l37.drop (1 : Int).toNat) ++ t42.1).mergeSort fun x y => decide (x ≤ y)))])) fn40 rfl rfl rfl rfl (fun w2 hP h1 sub s1 d1 ap hI => compactv40_trip hb sub s1 d1 hI) (SP.k1 fun v53 => ?_)
   clear hb
   refine go ?_
   obtain rfl := Option.some.inj ho
   exact QE.lower m39 (by omega) fun a w2 ha hw => ⟨(l34 ++ t42.1), (Lib.compact (((l37.drop (1 : Int).toNat) ++ t42.1).mergeSort fun x y => decide (x ≤ y))), v49, v53, (by omega), hr, ha.sub sb, (St.selP [1, 2, 3] rfl hw)⟩
  refine go ?_
  refine SP.imp (fun w2 hw => St.selO [1, 0, 2] rfl rfl hw) ?_
  obtain ⟨hb, ho⟩ := must_some ho
  refine SP.callA see (caps := []) (fun r => HO.pand (r = .tuple #[]) (HO.seps [slO (kInt .i64) 3 v35 (l34.mergeSort fun x y => decide (x ≤ y))])) fn39 rfl rfl rfl rfl (fun w2 hP h1 sub s1 d1 ap hI => srti39_trip hb sub s1 d1 hI) (SP.k0 ?_)
  clear hb
  refine go ?_
  obtain ⟨hb, ho⟩ := must_some ho
  refine SP.callA see (caps := []) (fun r => HO.ex fun u : Value => HO.pand (r = u) (HO.seps [slO (kInt .i64) 3 u (Lib.compact (l34.mergeSort fun x y => decide (x ≤ y)))])) fn40 rfl rfl rfl rfl (fun w2 hP h1 sub s1 d1 ap hI => compacti40_trip hb sub s1 d1 hI) (SP.k1 fun v57 => ?_)
  clear hb
  refine go ?_
  obtain rfl := fin ho hr
  exact QE.rt (fun _ h => St.selO [0] rfl rfl h)
 refine SP.bb 18 (fun hq9 => ?_) fun hq9 => ?_
 ·refine go ?_
  exact QE.jb (or_t hq9) fun w2 hw => hw
 refine go ?_
 exact QE.jb (or_f hq9 rfl) fun w2 hw => hw
end Go.Proofs.YtmhkokkphgchlaaGreatDoor
end
