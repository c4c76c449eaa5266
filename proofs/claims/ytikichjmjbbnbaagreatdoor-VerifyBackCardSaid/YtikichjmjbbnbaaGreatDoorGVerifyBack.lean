/- Functions of the program as plain functions, with the proof that the code computes them: printed by gen.py of this session. -/
import Derived.Test.YtikichjmjbbnbaaGreatDoorProg
import Derived.Test.YtikichjmjbbnbaaGreatDoorQ33xVerifyBack
import Derived.Test.YtikichjmjbbnbaaGreatDoorQ42xVerifyBack
import Derived.Ground.GgzProg
import Derived.Ground.Names8Prog
import Derived.Ground.NamesProg
import Derived.Ground.SlgcProg
import Derived.Ground.SlgmProg
import Derived.Ground.SlgnProg
import Derived.Ground.SlsfProg
import Derived.Shelf.Bits.Mul64
import Derived.Shelf.Lay
import Derived.Shelf.SlGeneric
import Derived.Shelf.SlIterI.Nil
import Derived.Shelf.SlSortCmp.WholeK
import Derived.Shelf.SlicesE.Reverse
import Derived.Shelf.SlicesG.Cmp
import Derived.Shelf.SlicesG.CompactI
import Derived.Shelf.Small.Bits
import Derived.Shelf.SortM.Plain
import Derived.Shelf.SortM.SortNone
import Derived.Shelf.Spec.SlicesGrow
import Derived.Test.YtikichjmjbbnbaaGreatDoorGVerifyBackp2
set_option linter.unusedVariables false
set_option linter.unusedSimpArgs false
set_option maxRecDepth 20000
set_option maxHeartbeats 2000000
set_option linter.defProp false
set_option warn.classDefReducibility false
noncomputable section
namespace Go.Proofs.YtikichjmjbbnbaaGreatDoor
open Go.Q
attribute [local irreducible] CP SP QE DA DT Val St
inductive method_Read.S where
  | start
  | l1 (t8 : Int × Int × Int) (x24 : Int) (l26 : List Int) (x28 x29 : Int)
  | l2 (l50 : List Int) (t53 : Int × Int × Int) (x69 : Int) (l71 : List Int) (x73 x74 : Int)
def method_Read.j2 (b_0 : List Int) (a1 : Int) (l50 : List Int) (x92 x93 : Int) (l95 : List Int) : Option (method_Read.S ⊕ (api_Method × Int × Int)) :=
  (method_reader_number_s2.f b_0 x92 x93 1 1 2).bind fun t98 => (method_reader_number_s2.f b_0 t98.2.1 t98.2.2 1 0 1).bind fun t99 => (method_reader_number_s2.f b_0 t99.2.1 t99.2.2 3 0 1048576).bind fun t100 => (method_reader_number_s2.f b_0 t100.2.1 t100.2.2 2 0 256).bind fun t101 => (method_reader_number_s2.f b_0 t101.2.1 t101.2.2 2 0 1024).bind fun t102 => if t102.2.2 ≠ 0 then (some (.inr ((⟨[], [], 0, false, 0, 0, 0, []⟩ : api_Method), 0, t102.2.2))) else (some (.inr ((⟨l50, l95, IntKind.u8.wrap t98.1, decide (t99.1 = 1), t100.1, t101.1, t102.1, []⟩ : api_Method), t102.2.1, 0)))
def method_Read.j1 (b_0 : List Int) (a1 : Int) (t8 : Int × Int × Int) (x47 x48 : Int) (l50 : List Int) : Option (method_Read.S ⊕ (api_Method × Int × Int)) :=
  (method_reader_number_s2.f b_0 x47 x48 1 0 (IntKind.i64.wrap (16 - t8.1))).bind fun t53 => if t53.2.2 = 0 then (some (.inl (.l2 l50 t53 0 [] t53.2.1 t53.2.2))) else (method_Read.j2 b_0 a1 l50 t53.2.1 t53.2.2 [])
def method_Read.F (b_0 : List Int) (a1 : Int) : method_Read.S → Option (method_Read.S ⊕ (api_Method × Int × Int))
  | .start => (method_reader_number_s2.f b_0 a1 0 1 0 4).bind fun t8 => if t8.2.2 = 0 then (some (.inl (.l1 t8 0 [] t8.2.1 t8.2.2))) else (method_Read.j1 b_0 a1 t8 t8.2.1 t8.2.2 [])
  | .l1 t8 x24 l26 x28 x29 => if x24 < t8.1 then ((method_reader_kind_s2.f b_0 x28 x29).bind fun t33 => if (l26.length + [t33.1].length) * 1 ≤ 140737488355328 then (some (.inl (.l1 t8 (IntKind.i64.wrap (x24 + 1)) (l26 ++ [t33.1]) t33.2.1 t33.2.2))) else none) else (method_Read.j1 b_0 a1 t8 x28 x29 l26)
  | .l2 l50 t53 x69 l71 x73 x74 => if x69 < t53.1 then ((method_reader_kind_s2.f b_0 x73 x74).bind fun t78 => if (l71.length + [t78.1].length) * 1 ≤ 140737488355328 then (some (.inl (.l2 l50 t53 (IntKind.i64.wrap (x69 + 1)) (l71 ++ [t78.1]) t78.2.1 t78.2.2))) else none) else (method_Read.j2 b_0 a1 l50 x73 x74 l71)
def method_Read.f (b_0 : List Int) (a1 : Int) : Option (api_Method × Int × Int) := runF (method_Read.F b_0 a1) .start
theorem method_Read.ok {b_0 a1 v_b_0} (r) (H : method_Read.f b_0 a1 = some r) : Ok Tryz.prog 63 [v_b_0, .int .i64 a1] [slP (kInt .u8) v_b_0 b_0] fun v => HO.ex fun u0 : Value => HO.ex fun u1 : Value => HO.ex fun u2 : Value => HO.pand (v = .tuple #[.agg #[u0, u1, .int .u8 r.1.Result, .bool r.1.Reads, .int .i64 r.1.Fuel, .int .i64 r.1.Stack, .int .i64 r.1.Heap, u2], .int .i64 r.2.1, .int .i64 r.2.2]) (HO.seps [slO (kInt .u8) 5 u0 r.1.Args, slO (kInt .u8) 5 u1 r.1.Locals, slO k_api_Instr 57 u2 r.1.Code]) := by
 refine oq 76 Tryz.func63 fun w hV see pb => ?_
 obtain ⟨m0, o, ho, hr⟩ := rn H
 refine al fun b2 => ?_
 refine sp 0 fun hs_v_b_0 => ?_
 refine bd [v_b_0, .int .i64 a1, .int .i64 0] ?_
 refine SP.box rfl rfl rfl rfl fun b4 => gg ?_
 refine SP.val (Val.makeFunc (us := [.pointer (some ⟨b4, 0, none⟩)]) (vs := []) rfl rfl) rfl rfl rfl (gg ?_)
 refine al fun b6 => ?_
 refine SP.imp (fun w2 hw => St.selO [1, 0, 2] rfl rfl hw) ?_
 obtain ⟨t8, hc, ho⟩ := bind_some ho
 refine SP.callA see (caps := []) _ fn102.h rfl rfl rfl rfl (fun w2 hP h1 sub s1 d1 ap hI => method_reader_number_s2.ok _ _ _ _ _ _ _ _ hc w2 hP sub (ap.get 0 rfl) _ h1 s1 d1 hI) (SP.k0 ?_)
 clear hc
 refine go ?_
 refine ji hr (fun z => ∃ x47 x48 l50 v51, z (method_Read.j1 b_0 a1 t8 x47 x48 l50) [(4, .pointer (some ⟨b2, 0, none⟩)), (7, .pointer (some ⟨b4, 0, none⟩)), (8, .func (.func 101) #[.pointer (some ⟨b4, 0, none⟩)] #[]), (9, .pointer (some ⟨b6, 0, none⟩)), (10, .int .i64 t8.1)] [slO (kInt .u8) 5 v51 l50, boxO b4 [v_b_0, .int .i64 x47, .int .i64 x48] 161, boxO b6 [v51, (.slice none 0 0), .int .u8 0, .bool false, .int .i64 0, .int .i64 0, .int .i64 0, (.slice none 0 0)] 43, boxO b2 [(.slice none 0 0), (.slice none 0 0), .int .u8 0, .bool false, .int .i64 0, .int .i64 0, .int .i64 0, (.slice none 0 0)] 43]) ?_ ?_
 ·rintro _ _ ⟨x47, x48, l50, v51, m52, o, _, ho, hr, h⟩
  refine en h ?_
  refine SP.imp (fun w2 hw => St.selO [1, 0, 2, 3] rfl rfl hw) ?_
  obtain ⟨t53, hc, ho⟩ := bind_some ho
  refine SP.callA see (caps := []) _ fn102.h rfl rfl rfl rfl (fun w2 hP h1 sub s1 d1 ap hI => method_reader_number_s2.ok _ _ _ _ _ _ _ _ hc w2 hP sub (ap.get 0 rfl) _ h1 s1 d1 hI) (SP.k0 ?_)
  clear hc
  refine go ?_
  refine ji hr (fun z => ∃ x92 x93 l95 v96, z (method_Read.j2 b_0 a1 l50 x92 x93 l95) [(4, .pointer (some ⟨b2, 0, none⟩)), (7, .pointer (some ⟨b4, 0, none⟩)), (9, .pointer (some ⟨b6, 0, none⟩))] [slO (kInt .u8) 5 v96 l95, boxO b4 [v_b_0, .int .i64 x92, .int .i64 x93] 161, slO (kInt .u8) 5 v51 l50, boxO b6 [v51, v96, .int .u8 0, .bool false, .int .i64 0, .int .i64 0, .int .i64 0, (.slice none 0 0)] 43, boxO b2 [(.slice none 0 0), (.slice none 0 0), .int .u8 0, .bool false, .int .i64 0, .int .i64 0, .int .i64 0, (.slice none 0 0)] 43]) ?_ ?_
  ·rintro _ _ ⟨x92, x93, l95, v96, m97, o, _, ho, hr, h⟩
   refine en h ?_
   refine SP.imp (fun w2 hw => St.selO [1, 0, 2, 3, 4] rfl rfl hw) ?_
   obtain ⟨t98, hc, ho⟩ := bind_some ho
   refine SP.callA see (caps := []) _ fn102.h rfl rfl rfl rfl (fun w2 hP h1 sub s1 d1 ap hI => method_reader_number_s2.ok _ _ _ _ _ _ _ _ hc w2 hP sub (ap.get 0 rfl) _ h1 s1 d1 hI) (SP.k0 ?_)
   clear hc
   refine gg ?_
   refine st 3 ?_
   obtain ⟨t99, hc, ho⟩ := bind_some ho
   refine SP.callA see (caps := []) _ fn102.h rfl rfl rfl rfl (fun w2 hP h1 sub s1 d1 ap hI => method_reader_number_s2.ok _ _ _ _ _ _ _ _ hc w2 hP sub (ap.get 0 rfl) _ h1 s1 d1 hI) (SP.k0 ?_)
   clear hc
   refine gg ?_
   refine st 3 ?_
   obtain ⟨t100, hc, ho⟩ := bind_some ho
   refine SP.callA see (caps := []) _ fn102.h rfl rfl rfl rfl (fun w2 hP h1 sub s1 d1 ap hI => method_reader_number_s2.ok _ _ _ _ _ _ _ _ hc w2 hP sub (ap.get 0 rfl) _ h1 s1 d1 hI) (SP.k0 ?_)
   clear hc
   refine gg ?_
   refine st 3 ?_
   obtain ⟨t101, hc, ho⟩ := bind_some ho
   refine SP.callA see (caps := []) _ fn102.h rfl rfl rfl rfl (fun w2 hP h1 sub s1 d1 ap hI => method_reader_number_s2.ok _ _ _ _ _ _ _ _ hc w2 hP sub (ap.get 0 rfl) _ h1 s1 d1 hI) (SP.k0 ?_)
   clear hc
   refine gg ?_
   refine st 3 ?_
   obtain ⟨t102, hc, ho⟩ := bind_some ho
   refine SP.callA see (caps := []) _ fn102.h rfl rfl rfl rfl (fun w2 hP h1 sub s1 d1 ap hI => method_reader_number_s2.ok _ _ _ _ _ _ _ _ hc w2 hP sub (ap.get 0 rfl) _ h1 s1 d1 hI) (SP.k0 ?_)
   clear hc
   refine gg ?_
   refine st 3 ?_
   refine ci ho (fun ho => ?_) fun ho => ?_
   ·refine CP.drawA (by kernel_rfl) (fun w2 k h => h.drawn k) ?_
    refine DA.ph 0 7 ?_
    refine DT.tv 0 rfl (Val.buildC (us := []) (ucs := []) (cs := [(.slice none 0 0), (.slice none 0 0), .int .u8 0, .bool false, .int .i64 0, .int .i64 0, .int .i64 0, (.slice none 0 0)]) bt43.h rfl rfl trivial (by rfl)) ?_
    refine DT.tk 1 ?_
    refine DT.tk 2 ?_
    refine DT.tk 3 ?_
    refine DT.tk 4 ?_
    refine DT.one 5 rfl (by kernel_rfl) rfl ?_
    refine st 4 ?_
    refine QE.atT (fun w2 hw => hw) ?_
    refine DT.tk 6 ?_
    refine DT.next (by kernel_rfl) ?_
    refine DA.one 7 rfl (by kernel_rfl) (gg ?_)
    refine QE.atA ?_
    refine DA.done (by kernel_rfl) (gg ?_)
    exact fin ho hr ▸ rt (fun _ h => St.selO [2, 1, 0] rfl rfl (St.addO (slO.nil k_api_Instr 57) (St.addO (slO.nil (kInt .u8) 5) (St.addO (slO.nil (kInt .u8) 5) h)))) (rs := [.cell 4 43, .tmp 5, .tmp 6]) (vs := [.agg #[(.slice none 0 0), (.slice none 0 0), .int .u8 0, .bool false, .int .i64 0, .int .i64 0, .int .i64 0, (.slice none 0 0)], .int .i64 0, .int .i64 t102.2.2]) (hv := ⟨RVs.cellA 4 rfl rfl Tryz.underlying43 rfl sz43.h, RVs.tmp rfl, RVs.tmp rfl, trivial⟩)
   refine CP.drawA (by kernel_rfl) (fun w2 k h => h.drawn k) ?_
   refine (DA.phase (fun i => Nat.ble 0 i && Nat.blt i 6) (fun w2 => St w em hV [slP (kInt .u8) v_b_0 b_0] [boxO b4 [v_b_0, .int .i64 t102.2.1, .int .i64 t102.2.2] 161, slO (kInt .u8) 5 v96 l95, slO (kInt .u8) 5 v51 l50, boxO b6 [v51, v96, .int .u8 (IntKind.u8.wrap t98.1), .bool (decide (t99.1 = 1)), .int .i64 t100.1, .int .i64 t101.1, .int .i64 t102.1, (.slice none 0 0)] 43] w2) ?_)
   refine DT.ts 0 rfl (Val.loadA 3 rfl Tryz.underlying43 rfl sz43.h rfl rfl rfl) (fun w2 hw => (St.selO [0, 1, 2, 3] rfl rfl hw)) ?_
   refine DT.ts 1 rfl (Val.move rfl) (fun w2 hw => (St.selO [0, 1, 2, 3] rfl rfl hw)) ?_
   refine DT.ts 2 rfl (Val.nilCheck rfl) (fun w2 hw => (St.selO [0, 1, 2, 3] rfl rfl hw)) ?_
   refine DT.ts 3 rfl (Val.fieldAddr Tryz.underlying161 rfl sz3.h rfl) (fun w2 hw => (St.selO [0, 1, 2, 3] rfl rfl hw)) ?_
   refine DT.ts 4 rfl (Val.load1 0 rfl Tryz.underlying3 rfl rfl rfl) (fun w2 hw => (St.selO [0, 1, 2, 3] rfl rfl hw)) ?_
   refine DT.one 5 rfl (by kernel_rfl) rfl ?_
   refine sh 2 fun hs_v51 => ?_
   refine sh 1 fun hs_v96 => ?_
   refine st 4 ?_
   refine QE.atT (fun w2 hw => (St.selO [0, 1, 2, 3] rfl rfl hw)) ?_
   refine DT.next (by kernel_rfl) ?_
   refine DA.one 6 rfl (by kernel_rfl) (gg ?_)
   refine QE.atA ?_
   refine DA.one 7 rfl (by kernel_rfl) (gg ?_)
   refine QE.atA ?_
   refine DA.done (by kernel_rfl) (gg ?_)
   exact fin ho hr ▸ rt (fun _ h => St.selO [3, 2, 0] rfl rfl (St.addO (slO.nil k_api_Instr 57) h)) (rs := [.cell 4 43, .tmp 5, .tmp 6]) (vs := [.agg #[v51, v96, .int .u8 (IntKind.u8.wrap t98.1), .bool (decide (t99.1 = 1)), .int .i64 t100.1, .int .i64 t101.1, .int .i64 t102.1, (.slice none 0 0)], .int .i64 t102.2.1, .int .i64 0]) (hv := ⟨RVs.cellA 4 rfl rfl Tryz.underlying43 rfl sz43.h, RVs.tmp rfl, RVs.tmp rfl, trivial⟩)
  refine gg ?_
  refine ci ho (fun ho => ?_) fun ho => ?_
  ·refine al fun b54 => ?_
   refine SP.callI (vals := [.pointer (some ⟨b54, 0, none⟩), .int .i64 t53.1, .func (.func 101) #[.pointer (some ⟨b4, 0, none⟩)] #[]]) (caps := []) 26 Tryz.func103 fn103.h rfl rfl rfl rfl rfl rfl fun a56 ha_a56 => gg ?_
   refine lo ho hr (fun z => ∃ x69 l71 x73 x74 v72, z (.l2 l50 t53 x69 l71 x73 x74) [(0, .pointer (some ⟨b54, 0, none⟩)), (2, .func (.func 101) #[.pointer (some ⟨b4, 0, none⟩)] #[]), (7, .int .i64 t53.1), (8, .int .i64 x69)] [slO (kInt .u8) 5 v72 l71, boxO b54 [v72] 166, boxO b4 [v_b_0, .int .i64 x73, .int .i64 x74] 161, slO (kInt .u8) 5 v51 l50, boxO b6 [v51, (.slice none 0 0), .int .u8 0, .bool false, .int .i64 0, .int .i64 0, .int .i64 0, (.slice none 0 0)] 43, boxO b2 [(.slice none 0 0), (.slice none 0 0), .int .u8 0, .bool false, .int .i64 0, .int .i64 0, .int .i64 0, (.slice none 0 0)] 43]) (fun _ z => ⟨0, [], t53.2.1, t53.2.2, (.slice none 0 0), z⟩) ?_ (fun _ hw => (St.addO (slO.nil (kInt .u8) 5) hw))
   rintro _ _ _ ⟨x69, l71, x73, x74, v72, m75, o, _, _, ho, hr, h⟩
   refine en h ?_
   refine ci ho (fun ho => ?_) fun ho => ?_
   ·refine CP.drawA (by kernel_rfl) (fun w2 k h => h.drawn k) ?_
    refine (DA.phase (fun i => Nat.ble 0 i && Nat.blt i 9) (fun w2 => St w em hV [slP (kInt .u8) v_b_0 b_0] [boxO b54 [v72] 166, slO (kInt .u8) 5 v51 l50, boxO b6 [v51, (.slice none 0 0), .int .u8 0, .bool false, .int .i64 0, .int .i64 0, .int .i64 0, (.slice none 0 0)] 43, boxO b2 [(.slice none 0 0), (.slice none 0 0), .int .u8 0, .bool false, .int .i64 0, .int .i64 0, .int .i64 0, (.slice none 0 0)] 43] w2) ?_)
    refine DT.ts 0 rfl (Val.move rfl) (fun w2 hw => (St.selO [1, 3, 4, 5] rfl rfl hw)) ?_
    refine DT.ts 1 rfl (Val.move rfl) (fun w2 hw => (St.selO [1, 3, 4, 5] rfl rfl hw)) ?_
    refine DT.ts 2 rfl (Val.nilCheck rfl) (fun w2 hw => (St.selO [1, 3, 4, 5] rfl rfl hw)) ?_
    refine DT.ts 3 rfl (Val.fieldAddr Tryz.underlying166 rfl sz26.h rfl) (fun w2 hw => (St.selO [1, 3, 4, 5] rfl rfl hw)) ?_
    refine DT.ts 4 rfl (Val.load1 0 rfl Tryz.underlying26 rfl rfl rfl) (fun w2 hw => (St.selO [1, 3, 4, 5] rfl rfl hw)) ?_
    refine DT.ts 5 rfl (Val.move rfl) (fun w2 hw => (St.selO [1, 3, 4, 5] rfl rfl hw)) ?_
    refine DT.one 6 rfl (by kernel_rfl) rfl ?_
    refine SP.imp (fun w2 hw => St.selO [2, 0, 1, 3, 4, 5] rfl rfl hw) ?_
    obtain ⟨t78, hc, ho⟩ := bind_some ho
    refine SP.rebind (us := [.pointer (some ⟨b4, 0, none⟩)]) (caps := []) fn101.h rfl rfl rfl ?_
    refine SP.callA see (caps := []) _ fn101.h rfl rfl rfl rfl (fun w2 hP h1 sub s1 d1 ap hI => method_reader_kind_s2.ok b_0 x73 x74 _ _ hc w2 hP sub (ap.get 0 rfl) _ h1 s1 d1 hI) (SP.k0 ?_)
    clear hc
    refine gg ?_
    refine QE.atT (fun w2 hw => (St.selO [2, 3, 4, 5] rfl rfl hw)) ?_
    refine DT.one 7 rfl (by kernel_rfl) rfl ?_
    refine li (kInt .u8) [t78.1] fun v81 => ?_
    refine QE.atT (fun w2 hw => (St.selO [3, 4, 5, 6] rfl rfl hw)) ?_
    refine DT.one 8 rfl (by kernel_rfl) rfl ?_
    refine SP.freezeS see 0 rfl ?_
    refine ap 1 0 ho fun v83 ho => ?_
    refine QE.atT (fun w2 hw => (St.selP [1] rfl (St.selO [2, 3, 4, 5] rfl rfl hw))) ?_
    refine DT.next (by kernel_rfl) ?_
    refine DA.one 9 rfl (by kernel_rfl) (gg ?_)
    refine QE.atA ?_
    refine DA.one 10 rfl (by kernel_rfl) (gg ?_)
    refine QE.atA ?_
    refine DA.one 11 rfl (by kernel_rfl) ?_
    refine sh 1 fun hs_v83 => ?_
    refine st 2 ?_
    refine QE.atA ?_
    refine DA.done (by kernel_rfl) (gg ?_)
    exact lw ho hr (fun _ z => ⟨(IntKind.i64.wrap (x69 + 1)), (l71 ++ [t78.1]), t78.2.1, t78.2.2, v83, z⟩) (sO [1, 2, 0, 3, 4, 5])
   refine QE.retI (m := ⟨26, []⟩) (rs := [.tmp 6]) (vs := [v72]) ha_a56 rfl Tryz.results103 ⟨RVs.tmp rfl, trivial⟩ (gg ?_)
   refine sh 0 fun hs_v72 => ?_
   refine st 4 ?_
   exact mi ho hr (fun _ z => ⟨x73, x74, l71, v72, z⟩) (sO [0, 2, 3, 4, 5])
  exact mi ho hr (fun _ z => ⟨t53.2.1, t53.2.2, [], (.slice none 0 0), z⟩) (fun _ hw => (St.addO (slO.nil (kInt .u8) 5) hw))
 refine gg ?_
 refine ci ho (fun ho => ?_) fun ho => ?_
 ·refine al fun b9 => ?_
  refine SP.callI (vals := [.pointer (some ⟨b9, 0, none⟩), .int .i64 t8.1, .func (.func 101) #[.pointer (some ⟨b4, 0, none⟩)] #[]]) (caps := []) 26 Tryz.func103 fn103.h rfl rfl rfl rfl rfl rfl fun a11 ha_a11 => gg ?_
  refine lo ho hr (fun z => ∃ x24 l26 x28 x29 v27, z (.l1 t8 x24 l26 x28 x29) [(0, .pointer (some ⟨b9, 0, none⟩)), (2, .func (.func 101) #[.pointer (some ⟨b4, 0, none⟩)] #[]), (7, .int .i64 t8.1), (8, .int .i64 x24)] [slO (kInt .u8) 5 v27 l26, boxO b9 [v27] 166, boxO b4 [v_b_0, .int .i64 x28, .int .i64 x29] 161, boxO b6 [(.slice none 0 0), (.slice none 0 0), .int .u8 0, .bool false, .int .i64 0, .int .i64 0, .int .i64 0, (.slice none 0 0)] 43, boxO b2 [(.slice none 0 0), (.slice none 0 0), .int .u8 0, .bool false, .int .i64 0, .int .i64 0, .int .i64 0, (.slice none 0 0)] 43]) (fun _ z => ⟨0, [], t8.2.1, t8.2.2, (.slice none 0 0), z⟩) ?_ (fun _ hw => (St.addO (slO.nil (kInt .u8) 5) hw))
  rintro _ _ _ ⟨x24, l26, x28, x29, v27, m30, o, _, _, ho, hr, h⟩
  refine en h ?_
  refine ci ho (fun ho => ?_) fun ho => ?_
  ·refine CP.drawA (by kernel_rfl) (fun w2 k h => h.drawn k) ?_
   refine (DA.phase (fun i => Nat.ble 0 i && Nat.blt i 9) (fun w2 => St w em hV [slP (kInt .u8) v_b_0 b_0] [boxO b9 [v27] 166, boxO b6 [(.slice none 0 0), (.slice none 0 0), .int .u8 0, .bool false, .int .i64 0, .int .i64 0, .int .i64 0, (.slice none 0 0)] 43, boxO b2 [(.slice none 0 0), (.slice none 0 0), .int .u8 0, .bool false, .int .i64 0, .int .i64 0, .int .i64 0, (.slice none 0 0)] 43] w2) ?_)
   refine DT.ts 0 rfl (Val.move rfl) (fun w2 hw => (St.selO [1, 3, 4] rfl rfl hw)) ?_
   refine DT.ts 1 rfl (Val.move rfl) (fun w2 hw => (St.selO [1, 3, 4] rfl rfl hw)) ?_
   refine DT.ts 2 rfl (Val.nilCheck rfl) (fun w2 hw => (St.selO [1, 3, 4] rfl rfl hw)) ?_
   refine DT.ts 3 rfl (Val.fieldAddr Tryz.underlying166 rfl sz26.h rfl) (fun w2 hw => (St.selO [1, 3, 4] rfl rfl hw)) ?_
   refine DT.ts 4 rfl (Val.load1 0 rfl Tryz.underlying26 rfl rfl rfl) (fun w2 hw => (St.selO [1, 3, 4] rfl rfl hw)) ?_
   refine DT.ts 5 rfl (Val.move rfl) (fun w2 hw => (St.selO [1, 3, 4] rfl rfl hw)) ?_
   refine DT.one 6 rfl (by kernel_rfl) rfl ?_
   refine SP.imp (fun w2 hw => St.selO [2, 0, 1, 3, 4] rfl rfl hw) ?_
   obtain ⟨t33, hc, ho⟩ := bind_some ho
   refine SP.rebind (us := [.pointer (some ⟨b4, 0, none⟩)]) (caps := []) fn101.h rfl rfl rfl ?_
   refine SP.callA see (caps := []) _ fn101.h rfl rfl rfl rfl (fun w2 hP h1 sub s1 d1 ap hI => method_reader_kind_s2.ok b_0 x28 x29 _ _ hc w2 hP sub (ap.get 0 rfl) _ h1 s1 d1 hI) (SP.k0 ?_)
   clear hc
   refine gg ?_
   refine QE.atT (fun w2 hw => (St.selO [2, 3, 4] rfl rfl hw)) ?_
   refine DT.one 7 rfl (by kernel_rfl) rfl ?_
   refine li (kInt .u8) [t33.1] fun v36 => ?_
   refine QE.atT (fun w2 hw => (St.selO [3, 4, 5] rfl rfl hw)) ?_
   refine DT.one 8 rfl (by kernel_rfl) rfl ?_
   refine SP.freezeS see 0 rfl ?_
   refine ap 1 0 ho fun v38 ho => ?_
   refine QE.atT (fun w2 hw => (St.selP [1] rfl (St.selO [2, 3, 4] rfl rfl hw))) ?_
   refine DT.next (by kernel_rfl) ?_
   refine DA.one 9 rfl (by kernel_rfl) (gg ?_)
   refine QE.atA ?_
   refine DA.one 10 rfl (by kernel_rfl) (gg ?_)
   refine QE.atA ?_
   refine DA.one 11 rfl (by kernel_rfl) ?_
   refine sh 1 fun hs_v38 => ?_
   refine st 2 ?_
   refine QE.atA ?_
   refine DA.done (by kernel_rfl) (gg ?_)
   exact lw ho hr (fun _ z => ⟨(IntKind.i64.wrap (x24 + 1)), (l26 ++ [t33.1]), t33.2.1, t33.2.2, v38, z⟩) (sO [1, 2, 0, 3, 4])
  refine QE.retI (m := ⟨26, []⟩) (rs := [.tmp 6]) (vs := [v27]) ha_a11 rfl Tryz.results103 ⟨RVs.tmp rfl, trivial⟩ (gg ?_)
  refine sh 0 fun hs_v27 => ?_
  refine st 3 ?_
  exact mi ho hr (fun _ z => ⟨x28, x29, l26, v27, z⟩) (sO [0, 2, 3, 4])
 exact mi ho hr (fun _ z => ⟨t8.2.1, t8.2.2, [], (.slice none 0 0), z⟩) (fun _ hw => (St.addO (slO.nil (kInt .u8) 5) hw))
inductive code_Read.S where
  | start
  | l1 (t11 : Int × Int × Int) (x61 x62 : Int) (l64 : List api_Instr)
def code_Read.j1 (b_0 : List Int) (a1 : Int) (t11 : Int × Int × Int) (x61 : Int) (l64 : List api_Instr) (t68 : Int × Int × Int) (x88 x89 : Int) : Option (code_Read.S ⊕ ((List api_Instr) × Int × Int)) :=
  (op_May.f (⟨IntKind.u8.wrap t68.1, x88, 0⟩ : api_Instr)).bind fun t91 => if (!t91) = true then (some (.inr ([], 0, 40))) else (if (l64.length + [(⟨IntKind.u8.wrap t68.1, x88, 0⟩ : api_Instr)].length) * 24 ≤ 140737488355328 then (some (.inl (.l1 t11 (IntKind.i64.wrap (x61 + 1)) x89 (l64 ++ [(⟨IntKind.u8.wrap t68.1, x88, 0⟩ : api_Instr)])))) else none)
def code_Read.F (b_0 : List Int) (a1 : Int) : code_Read.S → Option (code_Read.S ⊕ ((List api_Instr) × Int × Int))
  | .start => (octet_Get.f b_0 a1 1).bind fun t11 => if t11.2.2 ≠ 0 then (some (.inr ([], 0, t11.2.2))) else (if (!((decide (t11.1 > 0)) && (decide (t11.1 ≤ 200)))) = true then (some (.inr ([], 0, 40))) else (some (.inl (.l1 t11 0 t11.2.1 []))))
  | .l1 t11 x61 x62 l64 => if x61 < t11.1 then ((octet_Get.f b_0 x62 1).bind fun t68 => if t68.2.2 ≠ 0 then (some (.inr ([], 0, t68.2.2))) else ((op_Known.f (IntKind.u8.wrap t68.1)).bind fun t75 => if (!t75) = true then (some (.inr ([], 0, 40))) else ((code_wide.f (IntKind.u8.wrap t68.1)).bind fun t81 => if t81 = true then ((octet_Get.f b_0 t68.2.1 2).bind fun t83 => if t83.2.2 ≠ 0 then (some (.inr ([], 0, t83.2.2))) else (code_Read.j1 b_0 a1 t11 x61 l64 t68 t83.1 t83.2.1)) else (code_Read.j1 b_0 a1 t11 x61 l64 t68 0 t68.2.1)))) else (some (.inr (l64, x62, 0)))
def code_Read.f (b_0 : List Int) (a1 : Int) : Option ((List api_Instr) × Int × Int) := runF (code_Read.F b_0 a1) .start
theorem code_Read.ok (b_0 : List Int) (a1 : Int) (v_b_0 : Value)  (r : (List api_Instr) × Int × Int) (H : code_Read.f b_0 a1 = some r) (w : World) (hV : Hp) (sV : Sub hV (hp w)) (h0 : slR (kInt .u8) hV v_b_0 b_0) (h1 : (arrP k_arr199 1 tab1).p hV) :
    Trip Tryz.prog 64 [v_b_0, .int .i64 a1].toArray em hV w (fun v => HO.ex fun u0 : Value => HO.pand (v = .tuple #[u0, .int .i64 r.2.1, .int .i64 r.2.2]) (HO.seps [slO k_api_Instr 57 u0 r.1])) := by
 have see : Sees w em hV := ⟨sV, Dj.em_right _⟩
 refine Trip.ofP (P := Tryz.prog) (n := ⟨54, []⟩) Tryz.func64 rfl ⟨rfl, rfl⟩ rfl (St.begin (aS h0 (All.cons (x := arrP k_arr199 1 tab1) h1 (All.nil _)))) ?_
 obtain ⟨m0, o, ho, hr⟩ := rn H
 refine gg ?_
 refine al fun b2 => ?_
 refine al fun b4 => ?_
 refine al fun b6 => ?_
 refine SP.val (Val.makeFunc (us := []) (vs := [.pointer (some ⟨b2, 0, none⟩), .pointer (some ⟨b4, 0, none⟩), .pointer (some ⟨b6, 0, none⟩)]) rfl rfl) rfl rfl rfl ?_
 refine SP.defer rfl rfl rfl rfl (gg ?_)
 refine sp 0 fun hs_v_b_0 => ?_
 refine bd [v_b_0, .int .i64 a1] ?_
 refine SP.box rfl rfl rfl rfl fun b8 => gg ?_
 refine SP.callP (vals := [.pointer (some ⟨b8, 0, none⟩), .int .i64 1]) (caps := []) 32 Tryz.func105 fn105.h rfl rfl rfl rfl rfl rfl fun a10 ha_a10 => gg ?_
 refine CP.drawA (by kernel_rfl) (fun w2 k h => h.drawn k) ?_
 refine DA.ph 0 9 ?_
 refine DT.tk 0 ?_
 refine DT.tk 1 ?_
 refine DT.tk 2 ?_
 refine DT.tk 3 ?_
 refine DT.tk 4 ?_
 refine DT.tk 5 ?_
 refine DT.tk 6 ?_
 refine DT.tk 7 ?_
 refine DT.tk 8 ?_
 refine DT.next (by kernel_rfl) ?_
 refine DA.one 9 rfl (by kernel_rfl) ?_
 obtain ⟨t11, hc, ho⟩ := bind_some ho
 refine SP.callV see (caps := []) (.tuple #[.int .i64 t11.1, .int .i64 t11.2.1, .int .i64 t11.2.2]) fn31.h rfl rfl rfl rfl (fun w2 hP hs sub ap => octet_Get.ok _ _ _ _ _ hc w2 hP sub (ap.get 0 rfl)) ?_
 clear hc
 refine gg ?_
 refine QE.atA ?_
 refine DA.one 10 rfl (by kernel_rfl) (gg ?_)
 refine QE.atA ?_
 refine DA.ph 11 16 ?_
 refine DT.tk 11 ?_
 refine DT.tk 12 ?_
 refine DT.tk 13 ?_
 refine DT.tk 14 ?_
 refine DT.tk 15 ?_
 refine DT.next (by kernel_rfl) ?_
 refine DA.one 16 rfl (by kernel_rfl) (gg ?_)
 refine QE.atA ?_
 refine DA.done (by kernel_rfl) (gg ?_)
 refine ci ho (fun ho => ?_) fun ho => ?_
 ·refine bd [.int .i64 t11.2.2] ?_
  refine SP.val (Val.iface Tryz.underlying169 rfl rfl) rfl rfl rfl ?_
  refine SP.panic rfl rfl (gg ?_)
  refine QE.panP (m := ⟨32, []⟩) ha_a10 (gg ?_)
  refine QE.doorP (caps := [.pointer (some ⟨b2, 0, none⟩), .pointer (some ⟨b4, 0, none⟩), .pointer (some ⟨b6, 0, none⟩)]) 6 3 Tryz.func104 fn104.h rfl rfl rfl rfl rfl fun a12 ha_a12 => ?_
  refine CP.seq ?_
  refine CP.region ?_
  refine SP.val (Val.move rfl) rfl rfl rfl ?_
  refine SP.val (Val.cast (v := .bool true) (Val.neqI Tryz.underlying20 rfl rfl) rfl) rfl rfl rfl (gg ?_)
  refine CP.condT rfl rfl (gg ?_)
  refine SP.val (Val.assertT Tryz.underlying169 rfl rfl) rfl rfl rfl (gg ?_)
  refine al fun b13 => ?_
  refine st (h := id) 0 ?_
  refine SP.val (Val.assign rfl) rfl rfl rfl ?_
  refine SP.nil ?_
  refine QE.then ?_
  refine (CP.seq ?_)
  refine CP.seq ?_
  refine CP.region ?_
  refine SP.val (Val.move rfl) rfl rfl rfl ?_
  refine cs (.bool false) ?_
  refine CP.condF rfl rfl (gg ?_)
  refine CP.drawA (by kernel_rfl) (fun w2 k h => h.drawn k) ?_
  refine DA.ph 0 4 ?_
  refine DT.tk 0 ?_
  refine DT.tk 1 ?_
  refine DT.one 2 rfl (by kernel_rfl) rfl ?_
  refine st 4 ?_
  refine QE.atT (fun w2 hw => hw) ?_
  refine DT.one 3 rfl (by kernel_rfl) rfl ?_
  refine st 3 ?_
  refine QE.atT (fun w2 hw => hw) ?_
  refine DT.next (by kernel_rfl) ?_
  refine DA.one 4 rfl (by kernel_rfl) ?_
  refine st 2 ?_
  refine QE.atA ?_
  refine DA.done (by kernel_rfl) ?_
  obtain rfl := fin ho hr
  exact QE.doorEnd (.inr rfl) ha_a12 Tryz.results104 (rs := [.cell 4 41, .cell 5 3, .cell 6 30]) (vs := [(.slice none 0 0), .int .i64 0, .int .i64 t11.2.2]) Tryz.results64 ⟨RVs.cell1 4 rfl rfl Tryz.underlying41 rfl, RVs.cell1 3 rfl rfl Tryz.underlying3 rfl, RVs.cell1 2 rfl rfl Tryz.underlying30 rfl, trivial⟩ (fun w2 h => St.done (fun a b p s => ⟨_, rfl, s⟩) (St.selO [0] rfl rfl (St.addO (slO.nil k_api_Instr 57) h)))
 refine st 0 ?_
 refine QE.retP (m := ⟨32, []⟩) (rs := [.tmp 4]) (vs := [.int .i64 t11.1]) ha_a10 rfl Tryz.results105 ⟨RVs.tmp rfl, trivial⟩ (gg ?_)
 refine SP.jn 3 [4, 5, 6, 7, 8] 22 (.bool ((decide (t11.1 > 0)) && (decide (t11.1 ≤ 200)))) ?_ ?_
 ·refine SP.callP (vals := [.bool ((decide (t11.1 > 0)) && (decide (t11.1 ≤ 200)))]) (caps := []) 6 Tryz.func106 fn106.h rfl rfl rfl rfl rfl rfl fun a18 ha_a18 => gg ?_
  refine cb ho (fun ho => ?_) fun ho => ?_
  ·refine bd [.int .i64 40] ?_
   refine SP.val (Val.iface Tryz.underlying169 rfl rfl) rfl rfl rfl ?_
   refine SP.panic rfl rfl ?_
   refine QE.panP (m := ⟨6, []⟩) ha_a18 (gg ?_)
   refine QE.doorP (caps := [.pointer (some ⟨b2, 0, none⟩), .pointer (some ⟨b4, 0, none⟩), .pointer (some ⟨b6, 0, none⟩)]) 6 3 Tryz.func104 fn104.h rfl rfl rfl rfl rfl fun a19 ha_a19 => ?_
   refine CP.seq ?_
   refine CP.region ?_
   refine SP.val (Val.move rfl) rfl rfl rfl ?_
   refine SP.val (Val.cast (v := .bool true) (Val.neqI Tryz.underlying20 rfl rfl) rfl) rfl rfl rfl (gg ?_)
   refine CP.condT rfl rfl (gg ?_)
   refine SP.val (Val.assertT Tryz.underlying169 rfl rfl) rfl rfl rfl (gg ?_)
   refine al fun b20 => ?_
   refine st (h := id) 0 ?_
   refine SP.val (Val.assign rfl) rfl rfl rfl ?_
   refine SP.nil ?_
   refine QE.then ?_
   refine (CP.seq ?_)
   refine CP.seq ?_
   refine CP.region ?_
   refine SP.val (Val.move rfl) rfl rfl rfl ?_
   refine cs (.bool false) ?_
   refine CP.condF rfl rfl (gg ?_)
   refine CP.drawA (by kernel_rfl) (fun w2 k h => h.drawn k) ?_
   refine DA.ph 0 4 ?_
   refine DT.tk 0 ?_
   refine DT.tk 1 ?_
   refine DT.one 2 rfl (by kernel_rfl) rfl ?_
   refine st 4 ?_
   refine QE.atT (fun w2 hw => hw) ?_
   refine DT.one 3 rfl (by kernel_rfl) rfl ?_
   refine st 3 ?_
   refine QE.atT (fun w2 hw => hw) ?_
   refine DT.next (by kernel_rfl) ?_
   refine DA.one 4 rfl (by kernel_rfl) ?_
   refine st 2 ?_
   refine QE.atA ?_
   refine DA.done (by kernel_rfl) ?_
   obtain rfl := fin ho hr
   exact QE.doorEnd (.inr rfl) ha_a19 Tryz.results104 (rs := [.cell 4 41, .cell 5 3, .cell 6 30]) (vs := [(.slice none 0 0), .int .i64 0, .int .i64 40]) Tryz.results64 ⟨RVs.cell1 4 rfl rfl Tryz.underlying41 rfl, RVs.cell1 3 rfl rfl Tryz.underlying3 rfl, RVs.cell1 2 rfl rfl Tryz.underlying30 rfl, trivial⟩ (fun w2 h => St.done (fun a b p s => ⟨_, rfl, s⟩) (St.selO [0] rfl rfl (St.addO (slO.nil k_api_Instr 57) h)))
  refine QE.endP (m := ⟨6, []⟩) (rs := []) (vs := []) ha_a18 rfl Tryz.results106 trivial (gg ?_)
  refine lo ho hr (fun z => ∃ x61 x62 l64 v65, z (.l1 t11 x61 x62 l64) [(4, .pointer (some ⟨b2, 0, none⟩)), (5, .pointer (some ⟨b4, 0, none⟩)), (6, .pointer (some ⟨b6, 0, none⟩)), (7, .pointer (some ⟨b8, 0, none⟩)), (24, .int .i64 t11.1), (25, .int .i64 x61)] [slO k_api_Instr 57 v65 l64, boxO b8 [v_b_0, .int .i64 x62] 173, boxO b6 [.int .i64 0] 30, boxO b4 [.int .i64 0] 3, boxO b2 [v65] 41]) (fun _ z => ⟨0, t11.2.1, [], (.slice none 0 0), z⟩) ?_ (fun _ hw => (St.addO (slO.nil k_api_Instr 57) hw)) (hb := pe [slP (kInt .u8) v_b_0 b_0, arrP k_arr199 1 tab1])
  rintro _ _ _ ⟨x61, x62, l64, v65, m66, o, _, _, ho, hr, h⟩
  refine en h ?_
  refine ci ho (fun ho => ?_) fun ho => ?_
  ·refine SP.callP (vals := [.pointer (some ⟨b8, 0, none⟩), .int .i64 1]) (caps := []) 32 Tryz.func105 fn105.h rfl rfl rfl rfl rfl rfl fun a67 ha_a67 => gg ?_
   refine CP.drawA (by kernel_rfl) (fun w2 k h => h.drawn k) ?_
   refine DA.ph 0 9 ?_
   refine DT.tk 0 ?_
   refine DT.tk 1 ?_
   refine DT.tk 2 ?_
   refine DT.tk 3 ?_
   refine DT.tk 4 ?_
   refine DT.tk 5 ?_
   refine DT.tk 6 ?_
   refine DT.tk 7 ?_
   refine DT.tk 8 ?_
   refine DT.next (by kernel_rfl) ?_
   refine DA.one 9 rfl (by kernel_rfl) ?_
   obtain ⟨t68, hc, ho⟩ := bind_some ho
   refine SP.callV see (caps := []) (.tuple #[.int .i64 t68.1, .int .i64 t68.2.1, .int .i64 t68.2.2]) fn31.h rfl rfl rfl rfl (fun w2 hP hs sub ap => octet_Get.ok _ _ _ _ _ hc w2 hP sub (ap.get 0 rfl)) ?_
   clear hc
   refine gg ?_
   refine QE.atA ?_
   refine DA.one 10 rfl (by kernel_rfl) (gg ?_)
   refine QE.atA ?_
   refine DA.ph 11 16 ?_
   refine DT.tk 11 ?_
   refine DT.tk 12 ?_
   refine DT.tk 13 ?_
   refine DT.tk 14 ?_
   refine DT.tk 15 ?_
   refine DT.next (by kernel_rfl) ?_
   refine DA.one 16 rfl (by kernel_rfl) (gg ?_)
   refine QE.atA ?_
   refine DA.done (by kernel_rfl) (gg ?_)
   refine ci ho (fun ho => ?_) fun ho => ?_
   ·refine bd [.int .i64 t68.2.2] ?_
    refine SP.val (Val.iface Tryz.underlying169 rfl rfl) rfl rfl rfl ?_
    refine SP.panic rfl rfl (gg ?_)
    refine QE.panP (m := ⟨32, []⟩) ha_a67 (gg ?_)
    refine QE.doorP (caps := [.pointer (some ⟨b2, 0, none⟩), .pointer (some ⟨b4, 0, none⟩), .pointer (some ⟨b6, 0, none⟩)]) 6 3 Tryz.func104 fn104.h rfl rfl rfl rfl rfl fun a69 ha_a69 => ?_
    refine CP.seq ?_
    refine CP.region ?_
    refine SP.val (Val.move rfl) rfl rfl rfl ?_
    refine SP.val (Val.cast (v := .bool true) (Val.neqI Tryz.underlying20 rfl rfl) rfl) rfl rfl rfl (gg ?_)
    refine CP.condT rfl rfl (gg ?_)
    refine SP.val (Val.assertT Tryz.underlying169 rfl rfl) rfl rfl rfl (gg ?_)
    refine al fun b70 => ?_
    refine st (h := id) 0 ?_
    refine SP.val (Val.assign rfl) rfl rfl rfl ?_
    refine SP.nil ?_
    refine QE.then ?_
    refine (CP.seq ?_)
    refine CP.seq ?_
    refine CP.region ?_
    refine SP.val (Val.move rfl) rfl rfl rfl ?_
    refine cs (.bool false) ?_
    refine CP.condF rfl rfl (gg ?_)
    refine CP.drawA (by kernel_rfl) (fun w2 k h => h.drawn k) ?_
    refine (DA.phase (fun i => Nat.ble 0 i && Nat.blt i 4) (fun w2 => St w em hV [slP (kInt .u8) v_b_0 b_0, arrP k_arr199 1 tab1] [boxO b70 [.int .i64 t68.2.2] 169, slO k_api_Instr 57 v65 l64, boxO b8 [v_b_0, .int .i64 x62] 173, boxO b6 [.int .i64 0] 30, boxO b4 [.int .i64 0] 3] w2) ?_)
    refine DT.ts 0 rfl (Val.fieldAddr Tryz.underlying169 rfl sz30.h rfl) (fun w2 hw => (St.selO [0, 1, 2, 3, 4] rfl rfl hw)) ?_
    refine DT.ts 1 rfl (Val.load1 0 rfl Tryz.underlying30 rfl rfl rfl) (fun w2 hw => (St.selO [0, 1, 2, 3, 4] rfl rfl hw)) ?_
    refine DT.one 2 rfl (by kernel_rfl) rfl ?_
    refine st 5 ?_
    refine QE.atT (fun w2 hw => (St.selO [0, 1, 2, 3, 4] rfl rfl hw)) ?_
    refine DT.one 3 rfl (by kernel_rfl) rfl ?_
    refine st 4 ?_
    refine QE.atT (fun w2 hw => (St.selO [0, 1, 2, 3, 4] rfl rfl hw)) ?_
    refine DT.next (by kernel_rfl) ?_
    refine DA.one 4 rfl (by kernel_rfl) ?_
    refine st 3 ?_
    refine QE.atA ?_
    refine DA.done (by kernel_rfl) ?_
    obtain rfl := fin ho hr
    exact QE.doorEnd (.inr rfl) ha_a69 Tryz.results104 (rs := [.cell 4 41, .cell 5 3, .cell 6 30]) (vs := [(.slice none 0 0), .int .i64 0, .int .i64 t68.2.2]) Tryz.results64 ⟨RVs.cell1 5 rfl rfl Tryz.underlying41 rfl, RVs.cell1 4 rfl rfl Tryz.underlying3 rfl, RVs.cell1 3 rfl rfl Tryz.underlying30 rfl, trivial⟩ (fun w2 h => St.done (fun a b p s => ⟨_, rfl, s⟩) (St.selO [0] rfl rfl (St.addO (slO.nil k_api_Instr 57) h)))
   refine st 1 ?_
   refine QE.retP (m := ⟨32, []⟩) (rs := [.tmp 4]) (vs := [.int .i64 t68.1]) ha_a67 rfl Tryz.results105 ⟨RVs.tmp rfl, trivial⟩ (gg ?_)
   refine bd [.int .u8 (IntKind.u8.wrap t68.1), .int .i64 0, .int .i64 0] ?_
   refine al fun b73 => ?_
   refine st 0 ?_
   refine kv op_Known.ok ho fun t75 ho => ?_
   refine SP.callP (vals := [.bool t75]) (caps := []) 6 Tryz.func106 fn106.h rfl rfl rfl rfl rfl rfl fun a76 ha_a76 => gg ?_
   refine cb ho (fun ho => ?_) fun ho => ?_
   ·refine bd [.int .i64 40] ?_
    refine SP.val (Val.iface Tryz.underlying169 rfl rfl) rfl rfl rfl ?_
    refine SP.panic rfl rfl ?_
    refine QE.panP (m := ⟨6, []⟩) ha_a76 (gg ?_)
    refine QE.doorP (caps := [.pointer (some ⟨b2, 0, none⟩), .pointer (some ⟨b4, 0, none⟩), .pointer (some ⟨b6, 0, none⟩)]) 6 3 Tryz.func104 fn104.h rfl rfl rfl rfl rfl fun a77 ha_a77 => ?_
    refine CP.seq ?_
    refine CP.region ?_
    refine SP.val (Val.move rfl) rfl rfl rfl ?_
    refine SP.val (Val.cast (v := .bool true) (Val.neqI Tryz.underlying20 rfl rfl) rfl) rfl rfl rfl (gg ?_)
    refine CP.condT rfl rfl (gg ?_)
    refine SP.val (Val.assertT Tryz.underlying169 rfl rfl) rfl rfl rfl (gg ?_)
    refine al fun b78 => ?_
    refine st (h := id) 0 ?_
    refine SP.val (Val.assign rfl) rfl rfl rfl ?_
    refine SP.nil ?_
    refine QE.then ?_
    refine (CP.seq ?_)
    refine CP.seq ?_
    refine CP.region ?_
    refine SP.val (Val.move rfl) rfl rfl rfl ?_
    refine cs (.bool false) ?_
    refine CP.condF rfl rfl (gg ?_)
    refine CP.drawA (by kernel_rfl) (fun w2 k h => h.drawn k) ?_
    refine (DA.phase (fun i => Nat.ble 0 i && Nat.blt i 4) (fun w2 => St w em hV [slP (kInt .u8) v_b_0 b_0, arrP k_arr199 1 tab1] [boxO b78 [.int .i64 40] 169, boxO b73 [.int .u8 (IntKind.u8.wrap t68.1), .int .i64 0, .int .i64 0] 57, slO k_api_Instr 57 v65 l64, boxO b8 [v_b_0, .int .i64 t68.2.1] 173, boxO b6 [.int .i64 0] 30, boxO b4 [.int .i64 0] 3] w2) ?_)
    refine DT.ts 0 rfl (Val.fieldAddr Tryz.underlying169 rfl sz30.h rfl) (fun w2 hw => (St.selO [0, 1, 2, 3, 4, 5] rfl rfl hw)) ?_
    refine DT.ts 1 rfl (Val.load1 0 rfl Tryz.underlying30 rfl rfl rfl) (fun w2 hw => (St.selO [0, 1, 2, 3, 4, 5] rfl rfl hw)) ?_
    refine DT.one 2 rfl (by kernel_rfl) rfl ?_
    refine st 6 ?_
    refine QE.atT (fun w2 hw => (St.selO [0, 1, 2, 3, 4, 5] rfl rfl hw)) ?_
    refine DT.one 3 rfl (by kernel_rfl) rfl ?_
    refine st 5 ?_
    refine QE.atT (fun w2 hw => (St.selO [0, 1, 2, 3, 4, 5] rfl rfl hw)) ?_
    refine DT.next (by kernel_rfl) ?_
    refine DA.one 4 rfl (by kernel_rfl) ?_
    refine st 4 ?_
    refine QE.atA ?_
    refine DA.done (by kernel_rfl) ?_
    obtain rfl := fin ho hr
    exact QE.doorEnd (.inr rfl) ha_a77 Tryz.results104 (rs := [.cell 4 41, .cell 5 3, .cell 6 30]) (vs := [(.slice none 0 0), .int .i64 0, .int .i64 40]) Tryz.results64 ⟨RVs.cell1 6 rfl rfl Tryz.underlying41 rfl, RVs.cell1 5 rfl rfl Tryz.underlying3 rfl, RVs.cell1 4 rfl rfl Tryz.underlying30 rfl, trivial⟩ (fun w2 h => St.done (fun a b p s => ⟨_, rfl, s⟩) (St.selO [0] rfl rfl (St.addO (slO.nil k_api_Instr 57) h)))
   refine QE.endP (m := ⟨6, []⟩) (rs := []) (vs := []) ha_a76 rfl Tryz.results106 trivial ?_
   refine go ?_
   refine ji hr (fun z => ∃ x88 x89, z (code_Read.j1 b_0 a1 t11 x61 l64 t68 x88 x89) [(4, .pointer (some ⟨b2, 0, none⟩)), (5, .pointer (some ⟨b4, 0, none⟩)), (6, .pointer (some ⟨b6, 0, none⟩)), (7, .pointer (some ⟨b8, 0, none⟩)), (9, .pointer (some ⟨b73, 0, none⟩)), (24, .int .i64 t11.1), (25, .int .i64 x61)] [boxO b73 [.int .u8 (IntKind.u8.wrap t68.1), .int .i64 x88, .int .i64 0] 57, slO k_api_Instr 57 v65 l64, boxO b8 [v_b_0, .int .i64 x89] 173, boxO b6 [.int .i64 0] 30, boxO b4 [.int .i64 0] 3, boxO b2 [v65] 41]) ?_ ?_ (hb := pe [slP (kInt .u8) v_b_0 b_0, arrP k_arr199 1 tab1])
   ·rintro _ _ ⟨x88, x89, m90, o, _, ho, hr, h⟩
    refine en h ?_
    refine kv op_May.ok ho fun t91 ho => ?_
    refine SP.callP (vals := [.bool t91]) (caps := []) 6 Tryz.func106 fn106.h rfl rfl rfl rfl rfl rfl fun a92 ha_a92 => gg ?_
    refine cb ho (fun ho => ?_) fun ho => ?_
    ·refine bd [.int .i64 40] ?_
     refine SP.val (Val.iface Tryz.underlying169 rfl rfl) rfl rfl rfl ?_
     refine SP.panic rfl rfl ?_
     refine QE.panP (m := ⟨6, []⟩) ha_a92 (gg ?_)
     refine QE.doorP (caps := [.pointer (some ⟨b2, 0, none⟩), .pointer (some ⟨b4, 0, none⟩), .pointer (some ⟨b6, 0, none⟩)]) 6 3 Tryz.func104 fn104.h rfl rfl rfl rfl rfl fun a93 ha_a93 => ?_
     refine CP.seq ?_
     refine CP.region ?_
     refine SP.val (Val.move rfl) rfl rfl rfl ?_
     refine SP.val (Val.cast (v := .bool true) (Val.neqI Tryz.underlying20 rfl rfl) rfl) rfl rfl rfl (gg ?_)
     refine CP.condT rfl rfl (gg ?_)
     refine SP.val (Val.assertT Tryz.underlying169 rfl rfl) rfl rfl rfl (gg ?_)
     refine al fun b94 => ?_
     refine st (h := id) 0 ?_
     refine SP.val (Val.assign rfl) rfl rfl rfl ?_
     refine SP.nil ?_
     refine QE.then ?_
     refine (CP.seq ?_)
     refine CP.seq ?_
     refine CP.region ?_
     refine SP.val (Val.move rfl) rfl rfl rfl ?_
     refine cs (.bool false) ?_
     refine CP.condF rfl rfl (gg ?_)
     refine CP.drawA (by kernel_rfl) (fun w2 k h => h.drawn k) ?_
     refine (DA.phase (fun i => Nat.ble 0 i && Nat.blt i 4) (fun w2 => St w em hV [slP (kInt .u8) v_b_0 b_0, arrP k_arr199 1 tab1] [boxO b94 [.int .i64 40] 169, boxO b73 [.int .u8 (IntKind.u8.wrap t68.1), .int .i64 x88, .int .i64 0] 57, slO k_api_Instr 57 v65 l64, boxO b8 [v_b_0, .int .i64 x89] 173, boxO b6 [.int .i64 0] 30, boxO b4 [.int .i64 0] 3] w2) ?_)
     refine DT.ts 0 rfl (Val.fieldAddr Tryz.underlying169 rfl sz30.h rfl) (fun w2 hw => (St.selO [0, 1, 2, 3, 4, 5] rfl rfl hw)) ?_
     refine DT.ts 1 rfl (Val.load1 0 rfl Tryz.underlying30 rfl rfl rfl) (fun w2 hw => (St.selO [0, 1, 2, 3, 4, 5] rfl rfl hw)) ?_
     refine DT.one 2 rfl (by kernel_rfl) rfl ?_
     refine st 6 ?_
     refine QE.atT (fun w2 hw => (St.selO [0, 1, 2, 3, 4, 5] rfl rfl hw)) ?_
     refine DT.one 3 rfl (by kernel_rfl) rfl ?_
     refine st 5 ?_
     refine QE.atT (fun w2 hw => (St.selO [0, 1, 2, 3, 4, 5] rfl rfl hw)) ?_
     refine DT.next (by kernel_rfl) ?_
     refine DA.one 4 rfl (by kernel_rfl) ?_
     refine st 4 ?_
     refine QE.atA ?_
     refine DA.done (by kernel_rfl) ?_
     obtain rfl := fin ho hr
     exact QE.doorEnd (.inr rfl) ha_a93 Tryz.results104 (rs := [.cell 4 41, .cell 5 3, .cell 6 30]) (vs := [(.slice none 0 0), .int .i64 0, .int .i64 40]) Tryz.results64 ⟨RVs.cell1 6 rfl rfl Tryz.underlying41 rfl, RVs.cell1 5 rfl rfl Tryz.underlying3 rfl, RVs.cell1 4 rfl rfl Tryz.underlying30 rfl, trivial⟩ (fun w2 h => St.done (fun a b p s => ⟨_, rfl, s⟩) (St.selO [0] rfl rfl (St.addO (slO.nil k_api_Instr 57) h)))
    refine QE.endP (m := ⟨6, []⟩) (rs := []) (vs := []) ha_a92 rfl Tryz.results106 trivial (gg ?_)
    refine li k_api_Instr [(⟨IntKind.u8.wrap t68.1, x88, 0⟩ : api_Instr)] fun v97 => ?_
    refine SP.freezeS see 0 rfl ?_
    refine ap 1 0 ho fun v99 ho => ?_
    refine sh 1 fun hs_v99 => ?_
    refine st 5 ?_
    exact lw ho hr (fun _ z => ⟨(IntKind.i64.wrap (x61 + 1)), x89, (l64 ++ [(⟨IntKind.u8.wrap t68.1, x88, 0⟩ : api_Instr)]), v99, z⟩) (sO [1, 2, 3, 4, 5])
   refine gg ?_
   refine kv code_wide.ok ho fun t81 ho => ?_
   refine cb ho (fun ho => ?_) fun ho => ?_
   ·refine SP.callP (vals := [.pointer (some ⟨b8, 0, none⟩), .int .i64 2]) (caps := []) 32 Tryz.func105 fn105.h rfl rfl rfl rfl rfl rfl fun a82 ha_a82 => gg ?_
    refine CP.drawA (by kernel_rfl) (fun w2 k h => h.drawn k) ?_
    refine DA.ph 0 9 ?_
    refine DT.tk 0 ?_
    refine DT.tk 1 ?_
    refine DT.tk 2 ?_
    refine DT.tk 3 ?_
    refine DT.tk 4 ?_
    refine DT.tk 5 ?_
    refine DT.tk 6 ?_
    refine DT.tk 7 ?_
    refine DT.tk 8 ?_
    refine DT.next (by kernel_rfl) ?_
    refine DA.one 9 rfl (by kernel_rfl) ?_
    obtain ⟨t83, hc, ho⟩ := bind_some ho
    refine SP.callV see (caps := []) (.tuple #[.int .i64 t83.1, .int .i64 t83.2.1, .int .i64 t83.2.2]) fn31.h rfl rfl rfl rfl (fun w2 hP hs sub ap => octet_Get.ok _ _ _ _ _ hc w2 hP sub (ap.get 0 rfl)) ?_
    clear hc
    refine gg ?_
    refine QE.atA ?_
    refine DA.one 10 rfl (by kernel_rfl) (gg ?_)
    refine QE.atA ?_
    refine DA.ph 11 16 ?_
    refine DT.tk 11 ?_
    refine DT.tk 12 ?_
    refine DT.tk 13 ?_
    refine DT.tk 14 ?_
    refine DT.tk 15 ?_
    refine DT.next (by kernel_rfl) ?_
    refine DA.one 16 rfl (by kernel_rfl) (gg ?_)
    refine QE.atA ?_
    refine DA.done (by kernel_rfl) (gg ?_)
    refine ci ho (fun ho => ?_) fun ho => ?_
    ·refine bd [.int .i64 t83.2.2] ?_
     refine SP.val (Val.iface Tryz.underlying169 rfl rfl) rfl rfl rfl ?_
     refine SP.panic rfl rfl (gg ?_)
     refine QE.panP (m := ⟨32, []⟩) ha_a82 (gg ?_)
     refine QE.doorP (caps := [.pointer (some ⟨b2, 0, none⟩), .pointer (some ⟨b4, 0, none⟩), .pointer (some ⟨b6, 0, none⟩)]) 6 3 Tryz.func104 fn104.h rfl rfl rfl rfl rfl fun a84 ha_a84 => ?_
     refine CP.seq ?_
     refine CP.region ?_
     refine SP.val (Val.move rfl) rfl rfl rfl ?_
     refine SP.val (Val.cast (v := .bool true) (Val.neqI Tryz.underlying20 rfl rfl) rfl) rfl rfl rfl (gg ?_)
     refine CP.condT rfl rfl (gg ?_)
     refine SP.val (Val.assertT Tryz.underlying169 rfl rfl) rfl rfl rfl (gg ?_)
     refine al fun b85 => ?_
     refine st (h := id) 0 ?_
     refine SP.val (Val.assign rfl) rfl rfl rfl ?_
     refine SP.nil ?_
     refine QE.then ?_
     refine (CP.seq ?_)
     refine CP.seq ?_
     refine CP.region ?_
     refine SP.val (Val.move rfl) rfl rfl rfl ?_
     refine cs (.bool false) ?_
     refine CP.condF rfl rfl (gg ?_)
     refine CP.drawA (by kernel_rfl) (fun w2 k h => h.drawn k) ?_
     refine (DA.phase (fun i => Nat.ble 0 i && Nat.blt i 4) (fun w2 => St w em hV [slP (kInt .u8) v_b_0 b_0, arrP k_arr199 1 tab1] [boxO b85 [.int .i64 t83.2.2] 169, boxO b73 [.int .u8 (IntKind.u8.wrap t68.1), .int .i64 0, .int .i64 0] 57, slO k_api_Instr 57 v65 l64, boxO b8 [v_b_0, .int .i64 t68.2.1] 173, boxO b6 [.int .i64 0] 30, boxO b4 [.int .i64 0] 3] w2) ?_)
     refine DT.ts 0 rfl (Val.fieldAddr Tryz.underlying169 rfl sz30.h rfl) (fun w2 hw => (St.selO [0, 1, 2, 3, 4, 5] rfl rfl hw)) ?_
     refine DT.ts 1 rfl (Val.load1 0 rfl Tryz.underlying30 rfl rfl rfl) (fun w2 hw => (St.selO [0, 1, 2, 3, 4, 5] rfl rfl hw)) ?_
     refine DT.one 2 rfl (by kernel_rfl) rfl ?_
     refine st 6 ?_
     refine QE.atT (fun w2 hw => (St.selO [0, 1, 2, 3, 4, 5] rfl rfl hw)) ?_
     refine DT.one 3 rfl (by kernel_rfl) rfl ?_
     refine st 5 ?_
     refine QE.atT (fun w2 hw => (St.selO [0, 1, 2, 3, 4, 5] rfl rfl hw)) ?_
     refine DT.next (by kernel_rfl) ?_
     refine DA.one 4 rfl (by kernel_rfl) ?_
     refine st 4 ?_
     refine QE.atA ?_
     refine DA.done (by kernel_rfl) ?_
     obtain rfl := fin ho hr
     exact QE.doorEnd (.inr rfl) ha_a84 Tryz.results104 (rs := [.cell 4 41, .cell 5 3, .cell 6 30]) (vs := [(.slice none 0 0), .int .i64 0, .int .i64 t83.2.2]) Tryz.results64 ⟨RVs.cell1 6 rfl rfl Tryz.underlying41 rfl, RVs.cell1 5 rfl rfl Tryz.underlying3 rfl, RVs.cell1 4 rfl rfl Tryz.underlying30 rfl, trivial⟩ (fun w2 h => St.done (fun a b p s => ⟨_, rfl, s⟩) (St.selO [0] rfl rfl (St.addO (slO.nil k_api_Instr 57) h)))
    refine st 2 ?_
    refine QE.retP (m := ⟨32, []⟩) (rs := [.tmp 4]) (vs := [.int .i64 t83.1]) ha_a82 rfl Tryz.results105 ⟨RVs.tmp rfl, trivial⟩ (gg ?_)
    refine st 0 ?_
    exact mi ho hr (fun _ z => ⟨t83.1, t83.2.1, z⟩)
   exact mi ho hr (fun _ z => ⟨0, t68.2.1, z⟩)
  refine CP.np ?_
  refine CP.drawA (by kernel_rfl) (fun w2 k h => h.drawn k) ?_
  refine DA.ph 0 6 ?_
  refine DT.tk 0 ?_
  refine DT.tk 1 ?_
  refine DT.tk 2 ?_
  refine DT.tk 3 ?_
  refine DT.tk 4 ?_
  refine DT.one 5 rfl (by kernel_rfl) rfl ?_
  refine sh 0 fun hs_v65 => ?_
  refine st 4 ?_
  refine QE.atT (fun w2 hw => hw) ?_
  refine DT.next (by kernel_rfl) ?_
  refine DA.one 6 rfl (by kernel_rfl) ?_
  refine st 3 ?_
  refine QE.atA ?_
  refine DA.one 7 rfl (by kernel_rfl) ?_
  refine st 2 ?_
  refine QE.atA ?_
  refine DA.done (by kernel_rfl) ?_
  refine QE.npN (gg ?_)
  refine QE.doorR (caps := [.pointer (some ⟨b2, 0, none⟩), .pointer (some ⟨b4, 0, none⟩), .pointer (some ⟨b6, 0, none⟩)]) 6 3 Tryz.func104 fn104.h rfl rfl rfl rfl rfl fun a101 ha_a101 => ?_
  refine CP.seq ?_
  refine CP.region ?_
  refine SP.val (Val.move rfl) rfl rfl rfl ?_
  refine SP.val (Val.cast (v := .bool false) (Val.neqN Tryz.underlying20 rfl) rfl) rfl rfl rfl (gg ?_)
  refine CP.condF rfl rfl (gg ?_)
  obtain rfl := fin ho hr
  exact QE.doorEnd (.inr rfl) ha_a101 Tryz.results104 (rs := [.cell 4 41, .cell 5 3, .cell 6 30]) (vs := [v65, .int .i64 x62, .int .i64 0]) Tryz.results64 ⟨RVs.cell1 4 rfl rfl Tryz.underlying41 rfl, RVs.cell1 3 rfl rfl Tryz.underlying3 rfl, RVs.cell1 2 rfl rfl Tryz.underlying30 rfl, trivial⟩ (fun w2 h => St.done (fun a b p s => ⟨_, rfl, s⟩) (St.selO [0] rfl rfl h))
 refine SP.bb 19 (fun hq17 => ?_) fun hq17 => ?_
 ·refine gg ?_
  exact QE.jb (and_t hq17 rfl) fun w2 hw => hw
 refine gg ?_
 exact QE.jb (and_f hq17) fun w2 hw => hw
def module_one.f (b_0 : List Int) (a1 : Int) : Option (api_Method × Int × Int) :=
  (method_Read.f b_0 a1).bind fun t4 => if t4.2.2 ≠ 0 then (some ((⟨[], [], 0, false, 0, 0, 0, []⟩ : api_Method), 0, t4.2.2)) else ((code_Read.f b_0 t4.2.1).bind fun t16 => some ((⟨t4.1.Args, t4.1.Locals, t4.1.Result, t4.1.Reads, t4.1.Fuel, t4.1.Stack, t4.1.Heap, t16.1⟩ : api_Method), t16.2.1, t16.2.2))
theorem module_one.ok {b_0 a1 v_b_0} (r) (ho : module_one.f b_0 a1 = some r) : Ok Tryz.prog 38 [v_b_0, .int .i64 a1] [slP (kInt .u8) v_b_0 b_0, arrP k_arr199 1 tab1] fun v => HO.ex fun u0 : Value => HO.ex fun u1 : Value => HO.ex fun u2 : Value => HO.pand (v = .tuple #[.agg #[u0, u1, .int .u8 r.1.Result, .bool r.1.Reads, .int .i64 r.1.Fuel, .int .i64 r.1.Stack, .int .i64 r.1.Heap, u2], .int .i64 r.2.1, .int .i64 r.2.2]) (HO.seps [slO (kInt .u8) 5 u0 r.1.Args, slO (kInt .u8) 5 u1 r.1.Locals, slO k_api_Instr 57 u2 r.1.Code]) := by
 refine oq 31 Tryz.func38 fun w hV see pb => ?_
 refine al fun b2 => ?_
 refine k3 method_Read.ok ho fun t4 ho v5 v6 v7 => ?_
 refine al fun b11 => ?_
 refine sh 1 fun hs_v5 => ?_
 refine sh 2 fun hs_v6 => ?_
 refine sh 3 fun hs_v7 => ?_
 refine st 0 ?_
 refine ci ho (fun ho => ?_) fun ho => ?_
 ·refine bd [(.slice none 0 0), (.slice none 0 0), .int .u8 0, .bool false, .int .i64 0, .int .i64 0, .int .i64 0, (.slice none 0 0)] ?_
  refine st 4 ?_
  exact Option.some.inj ho ▸ rt (fun _ h => St.selO [2, 1, 0] rfl rfl (St.addO (slO.nil k_api_Instr 57) (St.addO (slO.nil (kInt .u8) 5) (St.addO (slO.nil (kInt .u8) 5) h)))) (rs := [.cell 4 43, .tmp 5, .tmp 6]) (vs := [.agg #[(.slice none 0 0), (.slice none 0 0), .int .u8 0, .bool false, .int .i64 0, .int .i64 0, .int .i64 0, (.slice none 0 0)], .int .i64 0, .int .i64 t4.2.2]) (hv := ⟨RVs.cellA 4 rfl rfl Tryz.underlying43 rfl sz43.h, RVs.tmp rfl, RVs.tmp rfl, trivial⟩)
 obtain ⟨t16, hc, ho⟩ := bind_some ho
 refine SP.callK see (caps := []) _ fn64.h rfl rfl rfl rfl (fun w2 hP hs sub ap => code_Read.ok _ _ _ _ hc w2 hP sub (ap.get 0 rfl) (ap.get 1 rfl)) (SP.k1 fun v17 => ?_)
 clear hc
 refine gg ?_
 refine sh 0 fun hs_v17 => ?_
 refine st 1 ?_
 refine sh 2 fun hs_v5 => ?_
 refine sh 3 fun hs_v6 => ?_
 refine sh 0 fun hs_v17 => ?_
 refine st 5 ?_
 exact Option.some.inj ho ▸ rt (sO [2, 3, 0]) (rs := [.cell 4 43, .tmp 5, .tmp 6]) (vs := [.agg #[v5, v6, .int .u8 t4.1.Result, .bool t4.1.Reads, .int .i64 t4.1.Fuel, .int .i64 t4.1.Stack, .int .i64 t4.1.Heap, v17], .int .i64 t16.2.1, .int .i64 t16.2.2]) (hv := ⟨RVs.cellA 5 rfl rfl Tryz.underlying43 rfl sz43.h, RVs.tmp rfl, RVs.tmp rfl, trivial⟩)
inductive module_Parse.S where
  | start
  | l1 (t22 t29 : (List api_Value) × Int × Int) (t34 : Int × Int × Int) (x68 x69 x70 : Int) (l72 : List api_Method)
def module_Parse.j3 (b_0 : List Int) (t22 : (List api_Value) × Int × Int) (l113 : List api_Value) (l116 : List api_Method) (x123 : Int) : Option (module_Parse.S ⊕ (api_Module × Int)) :=
  some (.inr ((⟨t22.1, l113, l116, x123⟩ : api_Module), 0))
def module_Parse.j2 (b_0 : List Int) (t22 : (List api_Value) × Int × Int) (x109 : Int) (l113 : List api_Value) (l116 : List api_Method) (x118 : Int) : Option (module_Parse.S ⊕ (api_Module × Int)) :=
  if x109 ≠ 0 then (some (.inr ((⟨[], [], [], 0⟩ : api_Module), x109))) else (if x118 = 255 then (module_Parse.j3 b_0 t22 l113 l116 (-1)) else (module_Parse.j3 b_0 t22 l113 l116 x118))
def module_Parse.F (b_0 : List Int) : module_Parse.S → Option (module_Parse.S ⊕ (api_Module × Int))
  | .start => if (b_0.length : Int) > 2000 then (some (.inr ((⟨[], [], [], 0⟩ : api_Module), 3))) else ((pool_Read.f b_0 0).bind fun t22 => if ((decide (t22.2.2 = 0)) && (!(decide ((t22.1.length : Int) ≤ 4)))) = true then (module_Parse.j2 b_0 t22 80 [] [] 0) else (if t22.2.2 ≠ 0 then (module_Parse.j2 b_0 t22 t22.2.2 [] [] 0) else ((pool_Read.f b_0 t22.2.1).bind fun t29 => if t29.2.2 ≠ 0 then (module_Parse.j2 b_0 t22 t29.2.2 t29.1 [] 0) else ((octet_Get.f b_0 t29.2.1 1).bind fun t34 => if ((decide (t34.2.2 = 0)) && (!(decide (t34.1 ≤ 16)))) = true then (module_Parse.j2 b_0 t22 80 t29.1 [] 0) else (if t34.2.2 ≠ 0 then (module_Parse.j2 b_0 t22 t34.2.2 t29.1 [] 0) else (some (.inl (.l1 t22 t29 t34 0 t34.2.2 t34.2.1 []))))))))
  | .l1 t22 t29 t34 x68 x69 x70 l72 => if ((decide (x68 < t34.1)) && (decide (x69 = 0))) = true then ((module_one.f b_0 x70).bind fun t79 => if (l72.length + [t79.1].length) * 104 ≤ 140737488355328 then (some (.inl (.l1 t22 t29 t34 (IntKind.i64.wrap (x68 + 1)) t79.2.2 t79.2.1 (l72 ++ [t79.1])))) else none) else (if x69 ≠ 0 then (module_Parse.j2 b_0 t22 x69 t29.1 l72 0) else ((octet_Get.f b_0 x70 1).bind fun t92 => if ((decide (t92.2.2 = 0)) && (!((decide (t92.1 < t34.1)) || (decide (t92.1 = 255))))) = true then (module_Parse.j2 b_0 t22 80 t29.1 l72 t92.1) else (if ((decide (t92.2.2 = 0)) && (!(decide (t92.2.1 = (b_0.length : Int))))) = true then (module_Parse.j2 b_0 t22 80 t29.1 l72 t92.1) else (if t92.2.2 ≠ 0 then (module_Parse.j2 b_0 t22 t92.2.2 t29.1 l72 t92.1) else (module_Parse.j2 b_0 t22 t92.2.2 t29.1 l72 t92.1)))))
def module_Parse.f (b_0 : List Int) : Option (api_Module × Int) := runF (module_Parse.F b_0) .start
theorem module_Parse.ok {b_0 v_b_0} (r) (H : module_Parse.f b_0 = some r) : Ok Tryz.prog 17 [v_b_0] [slP (kInt .u8) v_b_0 b_0, arrP (kInt .i64) 0 tab0, arrP k_arr199 1 tab1] fun v => HO.ex fun u0 : Value => HO.ex fun u1 : Value => HO.ex fun u2 : Value => HO.pand (v = .tuple #[.agg #[u0, u1, u2, .int .i64 r.1.Migrate], .int .i64 r.2]) (HO.seps [slO k_api_Value 55 u0 r.1.Globals, slO k_api_Value 55 u1 r.1.Pool, slD o_api_Method 43 u2 r.1.Methods]) := by
 refine oq 41 Tryz.func17 fun w hV see pb => ?_
 obtain ⟨m0, o, ho, hr⟩ := rn H
 refine sp 0 fun hs_v_b_0 => ?_
 refine SP.box (cs := [v_b_0]) rfl rfl rfl (one_cells hs_v_b_0) (fun b2 => ?_)
 refine al fun b4 => ?_
 refine CP.scope 0 (fun _ _ => False) rfl (fun _ _ _ h => h) (fun _ _ h => h.elim) (gg ?_)
 refine ci ho (fun ho => ?_) fun ho => ?_
 ·refine bd [(.slice none 0 0), (.slice none 0 0), (.slice none 0 0), .int .i64 0] ?_
  refine st 0 ?_
  refine QE.scopeX rfl ?_
  exact fin ho hr ▸ rt (fun _ h => St.selO [2, 1, 0] rfl rfl (St.addO (slD.nil o_api_Method 43) (St.addO (slO.nil k_api_Value 55) (St.addO (slO.nil k_api_Value 55) h)))) (rs := [.cell 2 25, .tmp 3]) (vs := [.agg #[(.slice none 0 0), (.slice none 0 0), (.slice none 0 0), .int .i64 0], .int .i64 3]) (hv := ⟨RVs.cellA 0 rfl rfl Tryz.underlying25 rfl sz25.h, RVs.tmp rfl, trivial⟩)
 refine al fun b9 => ?_
 refine al fun b11 => ?_
 refine al fun b13 => ?_
 refine st 1 ?_
 refine st 0 ?_
 refine al fun b15 => ?_
 refine SP.val (Val.makeFunc (us := []) (vs := [.pointer (some ⟨b2, 0, none⟩), .pointer (some ⟨b11, 0, none⟩), .pointer (some ⟨b15, 0, none⟩)]) rfl rfl) rfl rfl rfl ?_
 refine al fun b17 => ?_
 refine st 0 ?_
 refine SP.val (Val.makeFunc (us := []) (vs := [.pointer (some ⟨b15, 0, none⟩)]) rfl rfl) rfl rfl rfl ?_
 refine al fun b19 => ?_
 refine st 0 ?_
 refine CP.label ?_
 refine go ?_
 refine ji hr (fun z => ∃ t22 x109 l113 l116 x118 v23 v114 v117, z (module_Parse.j2 b_0 t22 x109 l113 l116 x118) [(2, .pointer (some ⟨b4, 0, none⟩)), (4, .pointer (some ⟨b9, 0, none⟩)), (7, .pointer (some ⟨b15, 0, none⟩))] [slD o_api_Method 43 v117 l116, slO k_api_Value 55 v114 l113, slO k_api_Value 55 v23 t22.1, boxO b15 [.int .i64 x109] 30, boxO b9 [v23, v114, v117, .int .i64 x118] 25, boxO b4 [(.slice none 0 0), (.slice none 0 0), (.slice none 0 0), .int .i64 0] 25]) ?_ ?_ (hb := pe [arrP (kInt .i64) 0 tab0, arrP k_arr199 1 tab1])
 ·rintro _ _ ⟨t22, x109, l113, l116, x118, v23, v114, v117, m119, o, _, ho, hr, h⟩
  refine en h ?_
  refine ci (hf := id) ho (fun ho => ?_) fun ho => ?_
  ·refine CP.drawA (by kernel_rfl) (fun w2 k h => h.drawn k) ?_
   refine DA.ph 0 3 ?_
   refine DT.tv 0 rfl (Val.buildC (us := []) (ucs := []) (cs := [(.slice none 0 0), (.slice none 0 0), (.slice none 0 0), .int .i64 0]) bt25.h rfl rfl trivial (by rfl)) ?_
   refine DT.tk 1 ?_
   refine DT.one 2 rfl (by kernel_rfl) rfl ?_
   refine st 5 ?_
   refine QE.atT (fun w2 hw => hw) ?_
   refine DT.next (by kernel_rfl) ?_
   refine DA.one 3 rfl (by kernel_rfl) (gg ?_)
   refine QE.atA ?_
   refine DA.done (by kernel_rfl) (gg ?_)
   refine QE.scopeX rfl ?_
   exact fin ho hr ▸ rt (fun _ h => St.selO [2, 1, 0] rfl rfl (St.addO (slD.nil o_api_Method 43) (St.addO (slO.nil k_api_Value 55) (St.addO (slO.nil k_api_Value 55) h)))) (rs := [.cell 2 25, .tmp 3]) (vs := [.agg #[(.slice none 0 0), (.slice none 0 0), (.slice none 0 0), .int .i64 0], .int .i64 x109]) (hv := ⟨RVs.cellA 5 rfl rfl Tryz.underlying25 rfl sz25.h, RVs.tmp rfl, trivial⟩)
  refine go ?_
  refine ji hr (fun z => ∃ x123, z (module_Parse.j3 b_0 t22 l113 l116 x123) [(2, .pointer (some ⟨b4, 0, none⟩)), (4, .pointer (some ⟨b9, 0, none⟩))] [slD o_api_Method 43 v117 l116, slO k_api_Value 55 v114 l113, slO k_api_Value 55 v23 t22.1, boxO b9 [v23, v114, v117, .int .i64 x123] 25, boxO b4 [(.slice none 0 0), (.slice none 0 0), (.slice none 0 0), .int .i64 0] 25]) ?_ ?_ (hb := pe [arrP (kInt .i64) 0 tab0, arrP k_arr199 1 tab1])
  ·rintro _ _ ⟨x123, m124, o, _, ho, hr, h⟩
   refine en h ?_
   refine sh 2 fun hs_v23 => ?_
   refine sh 1 fun hs_v114 => ?_
   refine SP.have (fun w2 hw => slD.shape (St.own 0 rfl see.sub see.dj hw)) (fun hs_v117 => ?_)
   refine st 4 ?_
   refine QE.scopeX rfl ?_
   exact fin ho hr ▸ rt (sO [2, 1, 0]) (rs := [.cell 2 25, .tmp 3]) (vs := [.agg #[v23, v114, v117, .int .i64 x123], .int .i64 0]) (hv := ⟨RVs.cellA 4 rfl rfl Tryz.underlying25 rfl sz25.h, RVs.tmp rfl, trivial⟩)
  refine gg ?_
  refine ci ho (fun ho => ?_) fun ho => ?_
  ·refine st 4 ?_
   exact mi ho hr (fun _ z => ⟨(-1), z⟩) (sO [0, 1, 2, 4, 5])
  exact mi ho hr (fun _ z => ⟨x118, z⟩) (sO [0, 1, 2, 4, 5])
 refine gg ?_
 refine SP.val (Val.makeFunc (us := []) (vs := [.pointer (some ⟨b2, 0, none⟩), .pointer (some ⟨b11, 0, none⟩), .pointer (some ⟨b9, 0, none⟩), .pointer (some ⟨b15, 0, none⟩), .pointer (some ⟨b19, 0, none⟩)]) rfl rfl) rfl rfl rfl ?_
 refine SP.val (Val.makeFunc (us := []) (vs := [.pointer (some ⟨b2, 0, none⟩), .pointer (some ⟨b11, 0, none⟩), .pointer (some ⟨b9, 0, none⟩), .pointer (some ⟨b15, 0, none⟩)]) rfl rfl) rfl rfl rfl ?_
 refine SP.val (Val.makeFunc (us := []) (vs := [.pointer (some ⟨b17, 0, none⟩), .pointer (some ⟨b13, 0, none⟩), .pointer (some ⟨b19, 0, none⟩)]) rfl rfl) rfl rfl rfl ?_
 refine SP.val (Val.makeFunc (us := []) (vs := [.pointer (some ⟨b13, 0, none⟩), .pointer (some ⟨b15, 0, none⟩), .pointer (some ⟨b2, 0, none⟩), .pointer (some ⟨b11, 0, none⟩), .pointer (some ⟨b9, 0, none⟩)]) rfl rfl) rfl rfl rfl ?_
 refine SP.val (Val.makeFunc (us := []) (vs := [.pointer (some ⟨b17, 0, none⟩), .pointer (some ⟨b9, 0, none⟩), .pointer (some ⟨b19, 0, none⟩), .pointer (some ⟨b13, 0, none⟩), .pointer (some ⟨b11, 0, none⟩), .pointer (some ⟨b2, 0, none⟩)]) rfl rfl) rfl rfl rfl ?_
 refine bd [.func (.func 33) #[] #[.pointer (some ⟨b2, 0, none⟩), .pointer (some ⟨b11, 0, none⟩), .pointer (some ⟨b9, 0, none⟩), .pointer (some ⟨b15, 0, none⟩), .pointer (some ⟨b19, 0, none⟩)], .func (.func 35) #[] #[.pointer (some ⟨b2, 0, none⟩), .pointer (some ⟨b11, 0, none⟩), .pointer (some ⟨b9, 0, none⟩), .pointer (some ⟨b15, 0, none⟩)], .func (.func 36) #[] #[.pointer (some ⟨b17, 0, none⟩), .pointer (some ⟨b13, 0, none⟩), .pointer (some ⟨b19, 0, none⟩)], .func (.func 37) #[] #[.pointer (some ⟨b13, 0, none⟩), .pointer (some ⟨b15, 0, none⟩), .pointer (some ⟨b2, 0, none⟩), .pointer (some ⟨b11, 0, none⟩), .pointer (some ⟨b9, 0, none⟩)], .func (.func 39) #[] #[.pointer (some ⟨b17, 0, none⟩), .pointer (some ⟨b9, 0, none⟩), .pointer (some ⟨b19, 0, none⟩), .pointer (some ⟨b13, 0, none⟩), .pointer (some ⟨b11, 0, none⟩), .pointer (some ⟨b2, 0, none⟩)]] ?_
 refine CP.rounds 9 ?_
 refine LP.step ?_
 refine CP.seq ?_
 refine CP.region ?_
 refine cs (.bool true) ?_
 refine CP.condT rfl rfl (gg ?_)
 refine SP.val (Val.indexC1 0 Tryz.underlying77 Tryz.underlying1 rfl sz1.h rfl rfl rfl rfl) rfl rfl rfl (gg ?_)
 refine SP.callI (vals := []) (caps := [.pointer (some ⟨b2, 0, none⟩), .pointer (some ⟨b11, 0, none⟩), .pointer (some ⟨b9, 0, none⟩), .pointer (some ⟨b15, 0, none⟩), .pointer (some ⟨b19, 0, none⟩)]) 19 Tryz.func33 fn33.h rfl rfl rfl rfl rfl rfl fun a21 ha_a21 => gg ?_
 refine k1 pool_Read.ok ho fun t22 ho v23 => ?_
 refine sh 0 fun hs_v23 => ?_
 refine st 6 ?_
 refine st 5 ?_
 refine st 3 ?_
 refine SP.callI (vals := [.bool (decide ((t22.1.length : Int) ≤ 4))]) (caps := [.pointer (some ⟨b15, 0, none⟩)]) 9 Tryz.func32 fn32.h rfl rfl rfl rfl rfl rfl fun a25 ha_a25 => gg ?_
 refine SP.jn 3 [1] 8 (.bool ((decide (t22.2.2 = 0)) && (!(decide ((t22.1.length : Int) ≤ 4))))) ?_ ?_
 ·refine gg ?_
  refine cb ho (fun ho => ?_) fun ho => ?_
  ·refine st 3 ?_
   refine QE.endI (m := ⟨9, []⟩) (rs := []) (vs := []) ha_a25 rfl Tryz.results32 trivial (gg ?_)
   refine QE.endI (m := ⟨19, []⟩) (rs := []) (vs := []) ha_a21 rfl Tryz.results33 trivial ?_
   refine SP.nil ?_
   refine QE.then ?_
   refine CP.seq ?_
   refine CP.region ?_
   refine SP.val (Val.load1 3 rfl Tryz.underlying30 rfl rfl rfl) rfl rfl rfl ?_
   refine cs (.bool true) ?_
   refine CP.condT rfl rfl (gg ?_)
   exact mi ho hr (fun _ z => ⟨t22, 80, [], [], 0, v23, (.slice none 0 0), (.slice none 0 0), z⟩) (fun _ hw => (St.selO [0, 1, 2, 5, 8, 9] rfl rfl (St.addO (slD.nil o_api_Method 43) (St.addO (slO.nil k_api_Value 55) hw))))
  refine QE.endI (m := ⟨9, []⟩) (rs := []) (vs := []) ha_a25 rfl Tryz.results32 trivial (gg ?_)
  refine QE.endI (m := ⟨19, []⟩) (rs := []) (vs := []) ha_a21 rfl Tryz.results33 trivial (gg ?_)
  refine ci (hf := id) ho (fun ho => ?_) fun ho => ?_
  ·exact mi ho hr (fun _ z => ⟨t22, t22.2.2, [], [], 0, v23, (.slice none 0 0), (.slice none 0 0), z⟩) (fun _ hw => (St.selO [0, 1, 2, 5, 8, 9] rfl rfl (St.addO (slD.nil o_api_Method 43) (St.addO (slO.nil k_api_Value 55) hw))))
  refine CP.skip ?_
  refine QE.blockN ?_
  refine QE.then ?_
  refine CP.region ?_
  refine cs (.int .i64 1) ?_
  refine QE.round ?_
  refine LP.step ?_
  refine CP.seq ?_
  refine CP.region ?_
  refine cs (.bool true) ?_
  refine CP.condT rfl rfl (gg ?_)
  refine SP.val (Val.indexC1 1 Tryz.underlying77 Tryz.underlying1 rfl sz1.h rfl rfl rfl rfl) rfl rfl rfl (gg ?_)
  refine SP.callI (vals := []) (caps := [.pointer (some ⟨b2, 0, none⟩), .pointer (some ⟨b11, 0, none⟩), .pointer (some ⟨b9, 0, none⟩), .pointer (some ⟨b15, 0, none⟩)]) 12 Tryz.func35 fn35.h rfl rfl rfl rfl rfl rfl fun a28 ha_a28 => gg ?_
  refine k1 pool_Read.ok ho fun t29 ho v30 => ?_
  refine sh 0 fun hs_v30 => ?_
  refine st 7 ?_
  refine st 6 ?_
  refine st 4 ?_
  refine QE.endI (m := ⟨12, []⟩) (rs := []) (vs := []) ha_a28 rfl Tryz.results35 trivial (gg ?_)
  refine ci (hf := id) ho (fun ho => ?_) fun ho => ?_
  ·exact mi ho hr (fun _ z => ⟨t22, t29.2.2, t29.1, [], 0, v23, v30, (.slice none 0 0), z⟩) (fun _ hw => (St.selO [0, 1, 2, 5, 8, 9] rfl rfl (St.addO (slD.nil o_api_Method 43) hw)))
  refine CP.skip ?_
  refine QE.blockN ?_
  refine QE.then ?_
  refine CP.region ?_
  refine cs (.int .i64 2) ?_
  refine QE.round ?_
  refine LP.step ?_
  refine CP.seq ?_
  refine CP.region ?_
  refine cs (.bool true) ?_
  refine CP.condT rfl rfl (gg ?_)
  refine SP.val (Val.indexC1 2 Tryz.underlying77 Tryz.underlying1 rfl sz1.h rfl rfl rfl rfl) rfl rfl rfl (gg ?_)
  refine SP.callI (vals := []) (caps := [.pointer (some ⟨b17, 0, none⟩), .pointer (some ⟨b13, 0, none⟩), .pointer (some ⟨b19, 0, none⟩)]) 9 Tryz.func36 fn36.h rfl rfl rfl rfl rfl rfl fun a32 ha_a32 => gg ?_
  refine SP.callI (vals := []) (caps := [.pointer (some ⟨b2, 0, none⟩), .pointer (some ⟨b11, 0, none⟩), .pointer (some ⟨b15, 0, none⟩)]) 12 Tryz.func30 fn30.h rfl rfl rfl rfl rfl rfl fun a33 ha_a33 => gg ?_
  obtain ⟨t34, hc, ho⟩ := bind_some ho
  refine SP.callV see (caps := []) (.tuple #[.int .i64 t34.1, .int .i64 t34.2.1, .int .i64 t34.2.2]) fn31.h rfl rfl rfl rfl (fun w2 hP hs sub ap => octet_Get.ok _ _ _ _ _ hc w2 hP sub (ap.get 0 rfl)) ?_
  clear hc
  refine gg ?_
  refine st 6 ?_
  refine st 4 ?_
  refine QE.retI (m := ⟨12, []⟩) (rs := [.tmp 3]) (vs := [.int .i64 t34.1]) ha_a33 rfl Tryz.results30 ⟨RVs.tmp rfl, trivial⟩ ?_
  refine st 5 ?_
  refine SP.callI (vals := [.bool (decide (t34.1 ≤ 16))]) (caps := [.pointer (some ⟨b15, 0, none⟩)]) 9 Tryz.func32 fn32.h rfl rfl rfl rfl rfl rfl fun a35 ha_a35 => gg ?_
  refine SP.jn 3 [1] 8 (.bool ((decide (t34.2.2 = 0)) && (!(decide (t34.1 ≤ 16))))) ?_ ?_
  ·refine gg ?_
   refine cb ho (fun ho => ?_) fun ho => ?_
   ·refine st 4 ?_
    refine QE.endI (m := ⟨9, []⟩) (rs := []) (vs := []) ha_a35 rfl Tryz.results32 trivial (gg ?_)
    refine QE.endI (m := ⟨9, []⟩) (rs := []) (vs := []) ha_a32 rfl Tryz.results36 trivial ?_
    refine SP.nil ?_
    refine QE.then ?_
    refine CP.seq ?_
    refine CP.region ?_
    refine SP.val (Val.load1 4 rfl Tryz.underlying30 rfl rfl rfl) rfl rfl rfl ?_
    refine cs (.bool true) ?_
    refine CP.condT rfl rfl (gg ?_)
    exact mi ho hr (fun _ z => ⟨t22, 80, t29.1, [], 0, v23, v30, (.slice none 0 0), z⟩) (fun _ hw => (St.selO [0, 1, 2, 5, 8, 9] rfl rfl (St.addO (slD.nil o_api_Method 43) hw)))
   refine QE.endI (m := ⟨9, []⟩) (rs := []) (vs := []) ha_a35 rfl Tryz.results32 trivial (gg ?_)
   refine QE.endI (m := ⟨9, []⟩) (rs := []) (vs := []) ha_a32 rfl Tryz.results36 trivial (gg ?_)
   refine ci (hf := id) ho (fun ho => ?_) fun ho => ?_
   ·exact mi ho hr (fun _ z => ⟨t22, t34.2.2, t29.1, [], 0, v23, v30, (.slice none 0 0), z⟩) (fun _ hw => (St.selO [0, 1, 2, 5, 8, 9] rfl rfl (St.addO (slD.nil o_api_Method 43) hw)))
   refine CP.skip ?_
   refine QE.blockN ?_
   refine QE.then ?_
   refine CP.region ?_
   refine cs (.int .i64 3) ?_
   refine QE.round ?_
   refine LP.step ?_
   refine CP.seq ?_
   refine CP.region ?_
   refine cs (.bool true) ?_
   refine CP.condT rfl rfl (gg ?_)
   refine SP.val (Val.indexC1 3 Tryz.underlying77 Tryz.underlying1 rfl sz1.h rfl rfl rfl rfl) rfl rfl rfl (gg ?_)
   refine SP.callI (vals := []) (caps := [.pointer (some ⟨b13, 0, none⟩), .pointer (some ⟨b15, 0, none⟩), .pointer (some ⟨b2, 0, none⟩), .pointer (some ⟨b11, 0, none⟩), .pointer (some ⟨b9, 0, none⟩)]) 29 Tryz.func37 fn37.h rfl rfl rfl rfl rfl rfl fun a38 ha_a38 => gg ?_
   refine lo ho hr (fun z => ∃ x68 x69 x70 l72 v73, z (.l1 t22 t29 t34 x68 x69 x70 l72) [(0, .pointer (some ⟨b13, 0, none⟩)), (1, .pointer (some ⟨b15, 0, none⟩)), (2, .pointer (some ⟨b2, 0, none⟩)), (3, .pointer (some ⟨b11, 0, none⟩)), (4, .pointer (some ⟨b9, 0, none⟩)), (5, .int .i64 x68)] [slD o_api_Method 43 v73 l72, slO k_api_Value 55 v30 t29.1, slO k_api_Value 55 v23 t22.1, boxO b19 [.func (.func 32) #[] #[.pointer (some ⟨b15, 0, none⟩)]] 72, boxO b17 [.func (.func 30) #[] #[.pointer (some ⟨b2, 0, none⟩), .pointer (some ⟨b11, 0, none⟩), .pointer (some ⟨b15, 0, none⟩)]] 71, boxO b15 [.int .i64 x69] 30, boxO b13 [.int .i64 t34.1] 3, boxO b11 [.int .i64 x70] 3, boxO b9 [v23, v30, v73, .int .i64 0] 25, boxO b4 [(.slice none 0 0), (.slice none 0 0), (.slice none 0 0), .int .i64 0] 25, boxO b2 [v_b_0] 26]) (fun _ z => ⟨0, t34.2.2, t34.2.1, [], (.slice none 0 0), z⟩) ?_ (fun _ hw => (St.addO (slD.nil o_api_Method 43) hw))
   rintro _ _ _ ⟨x68, x69, x70, l72, v73, m74, o, _, _, ho, hr, h⟩
   refine en h ?_
   refine SP.jn 3 [0, 1, 2, 3, 4, 5] 13 (.bool ((decide (x68 < t34.1)) && (decide (x69 = 0)))) ?_ ?_
   ·refine gg ?_
    refine cb ho (fun ho => ?_) fun ho => ?_
    ·refine al fun b77 => ?_
     refine k3 module_one.ok ho fun t79 ho v80 v81 v82 => ?_
     refine sh 0 fun hs_v80 => ?_
     refine sh 1 fun hs_v81 => ?_
     refine sh 2 fun hs_v82 => ?_
     refine st 3 ?_
     refine st 11 ?_
     refine st 9 ?_
     refine sh 0 fun hs_v80 => ?_
     refine sh 1 fun hs_v81 => ?_
     refine sh 2 fun hs_v82 => ?_
     refine SP.lit (k := kRaw 8) (xs := [[v80, v81, .int .u8 t79.1.Result, .bool t79.1.Reads, .int .i64 t79.1.Fuel, .int .i64 t79.1.Stack, .int .i64 t79.1.Heap, v82]]) (vs := [.agg #[v80, v81, .int .u8 t79.1.Result, .bool t79.1.Reads, .int .i64 t79.1.Fuel, .int .i64 t79.1.Stack, .int .i64 t79.1.Heap, v82]]) (cells := [v80, v81, .int .u8 t79.1.Result, .bool t79.1.Reads, .int .i64 t79.1.Fuel, .int .i64 t79.1.Stack, .int .i64 t79.1.Heap, v82]) Tryz.underlying23 inf43.h rfl rfl rfl rfl rfl rfl rfl rfl (fun _ ap => ⟨[v80, v81, .int .u8 t79.1.Result, .bool t79.1.Reads, .int .i64 t79.1.Fuel, .int .i64 t79.1.Stack, .int .i64 t79.1.Heap, v82], _, rfl, ⟨rfl, rfl, one_cons hs_v80 (one_cons hs_v81 (one_cons rfl (one_cons rfl (one_cons rfl (one_cons rfl (one_cons rfl (one_cons hs_v82 (rfl))))))))⟩, rfl⟩) rfl rfl rfl (fun v86 => ?_)
     refine SP.imp (fun w2 hw => St.litD (k := o_api_Method) (c := [v80, v81, .int .u8 t79.1.Result, .bool t79.1.Reads, .int .i64 t79.1.Fuel, .int .i64 t79.1.Stack, .int .i64 t79.1.Heap, v82]) (x0 := t79.1) [slO (kInt .u8) 5 v80 t79.1.Args, slO (kInt .u8) 5 v81 t79.1.Locals, slO k_api_Instr 57 v82 t79.1.Code] (St.selO [0, 1, 2, 3, 4, 5, 6, 7, 8, 9, 10, 11, 12, 13, 14, 15] rfl rfl hw) (fun a b q => ⟨_, _, _, rfl, q⟩)) ?_
     refine SP.imp (fun w2 hw => St.selO [2, 0, 1, 3, 4, 5, 6, 7, 8, 9, 10, 11, 12] rfl rfl hw) ?_
     obtain ⟨hb, ho⟩ := must_some ho
     refine SP.appendD see Tryz.underlying23 inf43.h rfl rfl hb rfl rfl rfl rfl rfl (fun v88 => ?_)
     clear hb
     refine gg ?_
     refine SP.have (fun w2 hw => slD.shape (St.own 0 rfl see.sub see.dj hw)) (fun hs_v88 => ?_)
     refine st 9 ?_
     exact lw ho hr (fun _ z => ⟨(IntKind.i64.wrap (x68 + 1)), t79.2.2, t79.2.1, (l72 ++ [t79.1]), v88, z⟩) (sO [0, 2, 3, 4, 5, 6, 7, 8, 9, 10, 11])
    refine QE.endI (m := ⟨29, []⟩) (rs := []) (vs := []) ha_a38 rfl Tryz.results37 trivial (gg ?_)
    refine ci (hf := id) ho (fun ho => ?_) fun ho => ?_
    ·exact mi ho hr (fun _ z => ⟨t22, x69, t29.1, l72, 0, v23, v30, v73, z⟩) (sO [0, 1, 2, 5, 8, 9])
    refine CP.skip ?_
    refine QE.blockN ?_
    refine QE.then ?_
    refine CP.region ?_
    refine cs (.int .i64 4) ?_
    refine QE.round ?_
    refine LP.step ?_
    refine CP.seq ?_
    refine CP.region ?_
    refine cs (.bool true) ?_
    refine CP.condT rfl rfl (gg ?_)
    refine SP.val (Val.indexC1 4 Tryz.underlying77 Tryz.underlying1 rfl sz1.h rfl rfl rfl rfl) rfl rfl rfl (gg ?_)
    refine SP.callI (vals := []) (caps := [.pointer (some ⟨b17, 0, none⟩), .pointer (some ⟨b9, 0, none⟩), .pointer (some ⟨b19, 0, none⟩), .pointer (some ⟨b13, 0, none⟩), .pointer (some ⟨b11, 0, none⟩), .pointer (some ⟨b2, 0, none⟩)]) 26 Tryz.func39 fn39.h rfl rfl rfl rfl rfl rfl fun a90 ha_a90 => gg ?_
    refine SP.callI (vals := []) (caps := [.pointer (some ⟨b2, 0, none⟩), .pointer (some ⟨b11, 0, none⟩), .pointer (some ⟨b15, 0, none⟩)]) 12 Tryz.func30 fn30.h rfl rfl rfl rfl rfl rfl fun a91 ha_a91 => gg ?_
    obtain ⟨t92, hc, ho⟩ := bind_some ho
    refine SP.callV see (caps := []) (.tuple #[.int .i64 t92.1, .int .i64 t92.2.1, .int .i64 t92.2.2]) fn31.h rfl rfl rfl rfl (fun w2 hP hs sub ap => octet_Get.ok _ _ _ _ _ hc w2 hP sub (ap.get 0 rfl)) ?_
    clear hc
    refine gg ?_
    refine st 7 ?_
    refine st 5 ?_
    refine QE.retI (m := ⟨12, []⟩) (rs := [.tmp 3]) (vs := [.int .i64 t92.1]) ha_a91 rfl Tryz.results30 ⟨RVs.tmp rfl, trivial⟩ (gg ?_)
    refine st 8 ?_
    refine SP.jn 4 [2, 4, 5, 9] 18 (.bool ((decide (t92.1 < t34.1)) || (decide (t92.1 = 255)))) ?_ ?_
    ·refine SP.callI (vals := [.bool ((decide (t92.1 < t34.1)) || (decide (t92.1 = 255)))]) (caps := [.pointer (some ⟨b15, 0, none⟩)]) 9 Tryz.func32 fn32.h rfl rfl rfl rfl rfl rfl fun a95 ha_a95 => gg ?_
     refine SP.jn 3 [1] 8 (.bool ((decide (t92.2.2 = 0)) && (!((decide (t92.1 < t34.1)) || (decide (t92.1 = 255)))))) ?_ ?_
     ·refine gg ?_
      refine cb ho (fun ho => ?_) fun ho => ?_
      ·refine st 5 ?_
       refine QE.endI (m := ⟨9, []⟩) (rs := []) (vs := []) ha_a95 rfl Tryz.results32 trivial (gg ?_)
       refine SP.callI (vals := [.bool (decide (t92.2.1 = (b_0.length : Int)))]) (caps := [.pointer (some ⟨b15, 0, none⟩)]) 9 Tryz.func32 fn32.h rfl rfl rfl rfl rfl rfl fun a98 ha_a98 => ?_
       refine CP.seq ?_
       refine CP.region ?_
       refine SP.val (Val.load1 5 rfl Tryz.underlying30 rfl rfl rfl) rfl rfl rfl ?_
       refine cs (.bool false) ?_
       refine CP.condF rfl rfl (gg ?_)
       refine QE.endI (m := ⟨9, []⟩) (rs := []) (vs := []) ha_a98 rfl Tryz.results32 trivial (gg ?_)
       refine QE.endI (m := ⟨26, []⟩) (rs := []) (vs := []) ha_a90 rfl Tryz.results39 trivial ?_
       refine SP.nil ?_
       refine QE.then ?_
       refine CP.seq ?_
       refine CP.region ?_
       refine SP.val (Val.load1 5 rfl Tryz.underlying30 rfl rfl rfl) rfl rfl rfl ?_
       refine cs (.bool true) ?_
       refine CP.condT rfl rfl (gg ?_)
       exact mi ho hr (fun _ z => ⟨t22, 80, t29.1, l72, t92.1, v23, v30, v73, z⟩) (sO [0, 1, 2, 5, 8, 9])
      refine QE.endI (m := ⟨9, []⟩) (rs := []) (vs := []) ha_a95 rfl Tryz.results32 trivial (gg ?_)
      refine SP.callI (vals := [.bool (decide (t92.2.1 = (b_0.length : Int)))]) (caps := [.pointer (some ⟨b15, 0, none⟩)]) 9 Tryz.func32 fn32.h rfl rfl rfl rfl rfl rfl fun a99 ha_a99 => gg ?_
      refine SP.jn 3 [1] 8 (.bool ((decide (t92.2.2 = 0)) && (!(decide (t92.2.1 = (b_0.length : Int)))))) ?_ ?_
      ·refine gg ?_
       refine cb ho (fun ho => ?_) fun ho => ?_
       ·refine st 5 ?_
        refine QE.endI (m := ⟨9, []⟩) (rs := []) (vs := []) ha_a99 rfl Tryz.results32 trivial (gg ?_)
        refine QE.endI (m := ⟨26, []⟩) (rs := []) (vs := []) ha_a90 rfl Tryz.results39 trivial ?_
        refine SP.nil ?_
        refine QE.then ?_
        refine CP.seq ?_
        refine CP.region ?_
        refine SP.val (Val.load1 5 rfl Tryz.underlying30 rfl rfl rfl) rfl rfl rfl ?_
        refine cs (.bool true) ?_
        refine CP.condT rfl rfl (gg ?_)
        exact mi ho hr (fun _ z => ⟨t22, 80, t29.1, l72, t92.1, v23, v30, v73, z⟩) (sO [0, 1, 2, 5, 8, 9])
       refine QE.endI (m := ⟨9, []⟩) (rs := []) (vs := []) ha_a99 rfl Tryz.results32 trivial (gg ?_)
       refine QE.endI (m := ⟨26, []⟩) (rs := []) (vs := []) ha_a90 rfl Tryz.results39 trivial (gg ?_)
       refine ci (hf := id) ho (fun ho => ?_) fun ho => ?_
       ·exact mi ho hr (fun _ z => ⟨t22, t92.2.2, t29.1, l72, t92.1, v23, v30, v73, z⟩) (sO [0, 1, 2, 5, 8, 9])
       refine CP.skip ?_
       refine QE.blockN ?_
       refine QE.then ?_
       refine CP.region ?_
       refine cs (.int .i64 5) ?_
       refine QE.round ?_
       refine LP.step ?_
       refine CP.seq ?_
       refine CP.region ?_
       refine cs (.bool false) ?_
       refine CP.condF rfl rfl (gg ?_)
       exact mi ho hr (fun _ z => ⟨t22, t92.2.2, t29.1, l72, t92.1, v23, v30, v73, z⟩) (sO [0, 1, 2, 5, 8, 9])
      refine SP.bb 5 (fun hq101 => ?_) fun hq101 => ?_
      ·refine gg ?_
       exact QE.jb (and_t hq101 rfl) fun w2 hw => hw
      refine gg ?_
      exact QE.jb (and_f hq101) fun w2 hw => hw
     refine SP.bb 5 (fun hq97 => ?_) fun hq97 => ?_
     ·refine gg ?_
      exact QE.jb (and_t hq97 rfl) fun w2 hw => hw
     refine gg ?_
     exact QE.jb (and_f hq97) fun w2 hw => hw
    refine SP.bb 14 (fun hq94 => ?_) fun hq94 => ?_
    ·refine gg ?_
     exact QE.jb (or_t hq94) fun w2 hw => hw
    refine gg ?_
    exact QE.jb (or_f hq94 rfl) fun w2 hw => hw
   refine SP.bb 10 (fun hq76 => ?_) fun hq76 => ?_
   ·refine gg ?_
    exact QE.jb (and_t hq76 rfl) fun w2 hw => hw
   refine gg ?_
   exact QE.jb (and_f hq76) fun w2 hw => hw
  refine SP.bb 5 (fun hq37 => ?_) fun hq37 => ?_
  ·refine gg ?_
   exact QE.jb (and_t hq37 rfl) fun w2 hw => hw
  refine gg ?_
  exact QE.jb (and_f hq37) fun w2 hw => hw
 refine SP.bb 5 (fun hq27 => ?_) fun hq27 => ?_
 ·refine gg ?_
  exact QE.jb (and_t hq27 rfl) fun w2 hw => hw
 refine gg ?_
 exact QE.jb (and_f hq27) fun w2 hw => hw
def verify_Load.f (b_0 : List Int) : Option (api_Module × (List api_Cert) × Int) :=
  (module_Parse.f b_0).bind fun t4 => if t4.2 ≠ 0 then (some ((⟨[], [], [], 0⟩ : api_Module), [], t4.2)) else ((verify_Accept.f t4.1).bind fun t17 => if t17.2 ≠ 0 then (some ((⟨[], [], [], 0⟩ : api_Module), [], t17.2)) else (some (t4.1, t17.1, 0)))
theorem verify_Load.ok {b_0 v_b_0} (r) (ho : verify_Load.f b_0 = some r) : Ok Tryz.prog 8 [v_b_0] [slP (kInt .u8) v_b_0 b_0, arrP (kInt .i64) 0 tab0, arrP k_arr199 1 tab1] fun v => HO.ex fun u0 : Value => HO.ex fun u1 : Value => HO.ex fun u2 : Value => HO.ex fun u3 : Value => HO.pand (v = .tuple #[.agg #[u0, u1, u2, .int .i64 r.1.Migrate], u3, .int .i64 r.2.2]) (HO.seps [slO k_api_Value 55 u0 r.1.Globals, slO k_api_Value 55 u1 r.1.Pool, slD o_api_Method 43 u2 r.1.Methods, slO k_api_Cert 45 u3 r.2.1]) := by
 refine oq 28 Tryz.func8 fun w hV see pb => ?_
 refine al fun b2 => ?_
 refine k3 module_Parse.ok ho fun t4 ho v5 v6 v7 => ?_
 refine al fun b11 => ?_
 refine sh 1 fun hs_v5 => ?_
 refine sh 2 fun hs_v6 => ?_
 refine SP.have (fun w2 hw => slD.shape (St.own 3 rfl see.sub see.dj hw)) (fun hs_v7 => ?_)
 refine st 0 ?_
 refine ci ho (fun ho => ?_) fun ho => ?_
 ·refine bd [(.slice none 0 0), (.slice none 0 0), (.slice none 0 0), .int .i64 0] ?_
  refine st 4 ?_
  exact Option.some.inj ho ▸ rt (fun _ h => St.selO [3, 2, 1, 0] rfl rfl (St.addO (slO.nil k_api_Cert 45) (St.addO (slD.nil o_api_Method 43) (St.addO (slO.nil k_api_Value 55) (St.addO (slO.nil k_api_Value 55) h))))) (rs := [.cell 2 25, .tmp 3, .tmp 4]) (vs := [.agg #[(.slice none 0 0), (.slice none 0 0), (.slice none 0 0), .int .i64 0], (.slice none 0 0), .int .i64 t4.2]) (hv := ⟨RVs.cellA 4 rfl rfl Tryz.underlying25 rfl sz25.h, RVs.tmp rfl, RVs.tmp rfl, trivial⟩) (hk := fun a b p s => ⟨_, _, _, _, rfl, s⟩)
 obtain ⟨t17, hc, ho⟩ := bind_some ho
 refine SP.callKO see (caps := []) _ fn6.h rfl rfl rfl rfl (fun w2 hs => verify_Accept.ok _ hc w2 (hp w2) (Sub.refl _) (aS (slO.read (St.own 1 rfl see.sub see.dj hs) (Sub.refl _) (Sub.refl _)) (aS (slO.read (St.own 2 rfl see.sub see.dj hs) (Sub.refl _) (Sub.refl _)) (aS (slD.read (St.own 3 rfl see.sub see.dj hs) (Sub.refl _) (Sub.refl _)) (All.cons ((St.pers 2 rfl see.sub see.dj hs)) (All.nil _)))))) (fun v a a2 b ⟨v18, e, h⟩ => ⟨v18, e, (Sep.fcons (fun _ => slO.flip (fun _ _ _ _ h => h)) (fun _ => Sep.fnil)) h⟩) (SP.k1 fun v18 => ?_)
 clear hc
 refine gg ?_
 refine ci ho (fun ho => ?_) fun ho => ?_
 ·refine bd [(.slice none 0 0), (.slice none 0 0), (.slice none 0 0), .int .i64 0] ?_
  refine st 5 ?_
  exact Option.some.inj ho ▸ rt (fun _ h => St.selO [3, 2, 1, 0] rfl rfl (St.addO (slO.nil k_api_Cert 45) (St.addO (slD.nil o_api_Method 43) (St.addO (slO.nil k_api_Value 55) (St.addO (slO.nil k_api_Value 55) h))))) (rs := [.cell 2 25, .tmp 3, .tmp 4]) (vs := [.agg #[(.slice none 0 0), (.slice none 0 0), (.slice none 0 0), .int .i64 0], (.slice none 0 0), .int .i64 t17.2]) (hv := ⟨RVs.cellA 5 rfl rfl Tryz.underlying25 rfl sz25.h, RVs.tmp rfl, RVs.tmp rfl, trivial⟩) (hk := fun a b p s => ⟨_, _, _, _, rfl, s⟩)
 refine sh 2 fun hs_v5 => ?_
 refine sh 3 fun hs_v6 => ?_
 refine SP.have (fun w2 hw => slD.shape (St.own 4 rfl see.sub see.dj hw)) (fun hs_v7 => ?_)
 refine st 5 ?_
 exact Option.some.inj ho ▸ rt (sO [2, 3, 4, 0]) (rs := [.cell 2 25, .tmp 3, .tmp 4]) (vs := [.agg #[v5, v6, v7, .int .i64 t4.1.Migrate], v18, .int .i64 0]) (hv := ⟨RVs.cellA 5 rfl rfl Tryz.underlying25 rfl sz25.h, RVs.tmp rfl, RVs.tmp rfl, trivial⟩) (hk := fun a b p s => ⟨_, _, _, _, rfl, s⟩)
def verify_Blame.f (m_0 : api_Module) : Option Int :=
  (verify_stands.f m_0).bind fun t6 => if t6.1 ≠ 2 then (some (-1)) else ((verify_first.f m_0).bind fun t7 => some t7.1)
theorem verify_Blame.ok {m_0 v_m_0_Globals v_m_0_Pool v_m_0_Methods} (r) (ho : verify_Blame.f m_0 = some r) : Ok Tryz.prog 13 [.agg #[v_m_0_Globals, v_m_0_Pool, v_m_0_Methods, .int .i64 m_0.Migrate]] [slP k_api_Value v_m_0_Globals m_0.Globals, slP k_api_Value v_m_0_Pool m_0.Pool, slP k_api_Method v_m_0_Methods m_0.Methods, arrP k_arr199 1 tab1] fun v => HO.pure (v = .int .i64 r) := by
 refine oq 20 Tryz.func13 fun w hV see pb => ?_
 refine SP.box rfl rfl rfl rfl fun b4 => gg ?_
 refine kv verify_stands.ok ho fun t6 ho => ?_
 refine ci ho (fun ho => ?_) fun ho => ?_
 ·exact Option.some.inj ho ▸ rt
 refine kv verify_first.ok ho fun t7 ho => ?_
 exact Option.some.inj ho ▸ rt
def capstanlaw14_awake.f  : Option Bool :=
  (capstanlaw14_small.f 2).bind fun t1 => (verify_Accept.f t1).bind fun t8 => (capstanlaw14_small.f 2).bind fun t11 => (elt t11.Methods 0).bind fun x21 => if (0 : Int) ≤ 1 ∧ 1 ≤ (x21.Code.length : Int) then ((elt t11.Methods 0).bind fun x32 => (capstanlaw14_small.f 2).bind fun t34 => (elt t34.Methods 0).bind fun x46 => (verify_Load.f ([0, 0, 0, 255] : List Int)).bind fun t50 => (if ((decide (t8.2 = 0)) && (decide ((t8.1.length : Int) = 1))) = true then ((elt t8.1 0).bind fun x66 => some (x66.Fuel == 2 && (x66.Stack == 1 && (x66.Heap == 0)))) else (some false)).bind fun t67 => (if t67 = true then ((capstanlaw14_small.f 1).bind fun t70 => (verify_May.f t70).bind fun t77 => some (decide (t77 = 120))) else (some false)).bind fun t78 => (if t78 = true then ((verify_May.f (⟨t11.Globals, t11.Pool, t11.Methods.set (0 : Int).toNat ({ x32 with Code := (x21.Code.drop (1 : Int).toNat) } : api_Method), t11.Migrate⟩ : api_Module)).bind fun t81 => some (decide (t81 = 101))) else (some false)).bind fun t82 => (if t82 = true then ((verify_Blame.f (⟨t11.Globals, t11.Pool, t11.Methods.set (0 : Int).toNat ({ x32 with Code := (x21.Code.drop (1 : Int).toNat) } : api_Method), t11.Migrate⟩ : api_Module)).bind fun t85 => some (decide (t85 = 0))) else (some false)).bind fun t86 => (if t86 = true then ((verify_May.f (⟨t34.Globals, t34.Pool, t34.Methods.set (0 : Int).toNat ({ x46 with Args := [3] } : api_Method), 0⟩ : api_Module)).bind fun t89 => some (decide (t89 = 70))) else (some false)).bind fun t90 => some ((((t90 && (decide (t50.2.2 = 0))) && (decide ((t50.2.1.length : Int) = 0))) && (decide (t50.1.Migrate = (-1)))) && (decide ((t50.1.Methods.length : Int) = 0)))) else none
theorem capstanlaw14_awake.ok (r) (ho : capstanlaw14_awake.f  = some r) : Ok Tryz.prog 4 [] [arrP (kInt .i64) 0 tab0, arrP k_arr199 1 tab1] fun v => HO.pure (v = .bool r) := by
 refine oq 91 Tryz.func4 fun w hV see pb => ?_
 obtain ⟨t1, hc, ho⟩ := bind_some (x := capstanlaw14_small.f 2) ho
 refine SP.callK see (caps := []) _ fn11.h rfl rfl rfl rfl (fun w2 hP hs sub ap => capstanlaw14_small.ok _ hc w2 hP sub (All.nil _)) (SP.k3 fun v2 v3 v4 => ?_)
 clear hc
 obtain ⟨t8, hc, ho⟩ := bind_some ho
 refine SP.callKO see (caps := []) _ fn6.h rfl rfl rfl rfl (fun w2 hs => verify_Accept.ok _ hc w2 (hp w2) (Sub.refl _) (aS (slO.read (St.own 0 rfl see.sub see.dj hs) (Sub.refl _) (Sub.refl _)) (aS (slO.read (St.own 1 rfl see.sub see.dj hs) (Sub.refl _) (Sub.refl _)) (aS (slO.read (St.own 2 rfl see.sub see.dj hs) (Sub.refl _) (Sub.refl _)) (All.cons ((St.pers 1 rfl see.sub see.dj hs)) (All.nil _)))))) (fun v a a2 b ⟨v9, e, h⟩ => ⟨v9, e, (Sep.fcons (fun _ => slO.flip (fun _ _ _ _ h => h)) (fun _ => Sep.fnil)) h⟩) (SP.k1 fun v9 => ?_)
 clear hc
 refine gg ?_
 obtain ⟨t11, hc, ho⟩ := bind_some (x := capstanlaw14_small.f 2) ho
 refine SP.callK see (caps := []) _ fn11.h rfl rfl rfl rfl (fun w2 hP hs sub ap => capstanlaw14_small.ok _ hc w2 hP sub (All.nil _)) (SP.k3 fun v12 v13 v14 => ?_)
 clear hc
 refine al fun b18 => ?_
 refine sh 1 fun hs_v12 => ?_
 refine sh 2 fun hs_v13 => ?_
 refine sh 3 fun hs_v14 => ?_
 refine st 0 ?_
 refine CP.drawA (by kernel_rfl) (fun w2 k h => h.drawn k) ?_
 obtain ⟨x21, hx_x21, ho⟩ := elt_bind ho
 refine DA.ghost (fun w2 hw => let ⟨z, hz⟩ := ixC ((fun w2 hw => slO.whole (St.own 3 rfl see.sub see.dj hw)) w2 hw) hx_x21.1 hx_x21.2; ⟨z, hz, hw⟩) (fun p20 i_p20 => ?_)
 have h_p20 := i_p20.1
 obtain ⟨p22, h_p22⟩ := PtC.more h_p20 7
 refine DA.ph 0 8 ?_
 refine DT.tk 0 ?_
 refine DT.tk 1 ?_
 refine DT.tk 2 ?_
 refine DT.tk 3 ?_
 refine DT.tv 4 rfl (Val.indexC' i_p20 Tryz.underlying23 sz43.h rfl rfl) ?_
 refine DT.tv 5 rfl (Val.fieldC h_p20 h_p22 Tryz.underlying43 rfl rfl sz41.h rfl) ?_
 refine DT.one 6 rfl (by kernel_rfl) rfl ?_
 refine SP.loadOS (j := 0) see 3 7 rfl hx_x21.2 h_p22 (fun _ _ ⟨v0_, v1_, v2_, e, p0_, p1_, p2_⟩ => ⟨v2_, by subst e; rfl, p2_⟩) Tryz.underlying41 rfl rfl rfl (fun v27 => gg ?_)
 refine QE.atT (fun w2 hw => (St.selP [1, 2] rfl hw)) ?_
 refine DT.one 7 rfl (by kernel_rfl) rfl ?_
 obtain ⟨hz, ho⟩ := must_some ho
 refine SP.sliceFromP see 0 rfl Tryz.underlying41 sz57.h rfl rfl hz rfl rfl (fun v29 => ?_)
 clear hz
 refine gg ?_
 refine QE.atT (fun w2 hw => (St.selP [2, 3] rfl hw)) ?_
 refine DT.next (by kernel_rfl) ?_
 refine DA.one 8 rfl (by kernel_rfl) ?_
 obtain ⟨x32, hx_x32, ho⟩ := elt_bind ho
 refine SP.indexW (fun w2 hw => slO.whole (St.own 3 rfl see.sub see.dj hw)) Tryz.underlying23 sz43.h hx_x32.1 hx_x32.2 rfl rfl rfl rfl (fun p31 h_p31 => gg ?_)
 refine QE.atA ?_
 refine DA.one 9 rfl (by kernel_rfl) ?_
 refine SP.fieldO h_p31 Tryz.underlying43 rfl sz41.h rfl rfl rfl (fun p33 h_p33 => gg ?_)
 refine QE.atA ?_
 refine DA.one 10 rfl (by kernel_rfl) ?_
 refine sp 0 fun hs_v29 => ?_
 refine SP.storeO (z0 := ({ x32 with Code := (x21.Code.drop (1 : Int).toNat) } : api_Method)) (off := 7) (vs := [v29]) see 3 rfl hx_x32.2 h_p33 (one_cells hs_v29) (one_cons hs_v29 (rfl)) sz41.h rfl (fun a cs ap r => by obtain ⟨v0_, v1_, v2_, e, p0_, p1_, p2_⟩ := r; subst e; exact ⟨v0_, v1_, v29, rfl, p0_, p1_, ap.get 0 rfl⟩) rfl rfl rfl (gg ?_)
 refine QE.atA ?_
 refine DA.done (by kernel_rfl) (gg ?_)
 obtain ⟨t34, hc, ho⟩ := bind_some (x := capstanlaw14_small.f 2) ho
 refine SP.callK see (caps := []) _ fn11.h rfl rfl rfl rfl (fun w2 hP hs sub ap => capstanlaw14_small.ok _ hc w2 hP sub (All.nil _)) (SP.k3 fun v35 v36 v37 => ?_)
 clear hc
 refine al fun b41 => ?_
 refine sh 1 fun hs_v35 => ?_
 refine sh 2 fun hs_v36 => ?_
 refine sh 3 fun hs_v37 => ?_
 refine st 0 ?_
 refine st 0 ?_
 refine li (kInt .u8) [3] fun v43 => ?_
 obtain ⟨x46, hx_x46, ho⟩ := elt_bind ho
 refine SP.indexW (fun w2 hw => slO.whole (St.own 4 rfl see.sub see.dj hw)) Tryz.underlying23 sz43.h hx_x46.1 hx_x46.2 rfl rfl rfl rfl (fun p45 h_p45 => ?_)
 refine SP.fieldO h_p45 Tryz.underlying43 rfl sz26.h rfl rfl rfl (fun p47 h_p47 => ?_)
 refine SP.freezeS see 0 rfl ?_
 refine sp 0 fun hs_v43 => ?_
 refine SP.storeO (z0 := ({ x46 with Args := [3] } : api_Method)) (off := 0) (vs := [v43]) see 3 rfl hx_x46.2 h_p47 (one_cells hs_v43) (one_cons hs_v43 (rfl)) sz26.h rfl (fun a cs ap r => by obtain ⟨v0_, v1_, v2_, e, p0_, p1_, p2_⟩ := r; subst e; exact ⟨v43, v1_, v2_, rfl, ap.get 0 rfl, p1_, p2_⟩) rfl rfl rfl (gg ?_)
 refine li (kInt .u8) ([0, 0, 0, 255] : List Int) fun v48 => ?_
 refine SP.freezeS see 0 rfl ?_
 obtain ⟨t50, hc, ho⟩ := bind_some (x := verify_Load.f ([0, 0, 0, 255] : List Int)) ho
 refine SP.callK see (caps := []) _ fn8.h rfl rfl rfl rfl (fun w2 hP hs sub ap => verify_Load.ok _ hc w2 hP sub (aS (ap.get 0 rfl) (All.cons (ap.get 4 rfl) (All.cons (ap.get 5 rfl) (All.nil _))))) (fun vr => ?_)
 refine SP.ex (fun w2 h => St.open h) (fun v51 => ?_)
 refine SP.ex (fun w2 h => St.open h) (fun v52 => ?_)
 refine SP.ex (fun w2 h => St.open h) (fun v53 => ?_)
 refine SP.ex (fun w2 h => St.open h) (fun v54 => ?_)
 refine SP.have (fun w2 h => (St.pand h).1.symm) (fun er => ?_)
 subst er
 refine SP.imp (fun w2 h => St.seps (St.pand h).2) ?_
 clear hc
 refine gg ?_
 refine al fun b59 => ?_
 refine sh 1 fun hs_v51 => ?_
 refine sh 2 fun hs_v52 => ?_
 refine SP.have (fun w2 hw => slD.shape (St.own 3 rfl see.sub see.dj hw)) (fun hs_v53 => ?_)
 refine st 0 ?_
 refine SP.jn 4 [1, 3, 4, 5, 6, 7] 43 (.bool ((decide (t8.2 = 0)) && (decide ((t8.1.length : Int) = 1)))) ?_ ?_
 ·refine gg ?_
  obtain ⟨t67, hg_t67, ho⟩ := bind_some ho
  refine SP.jn 6 [3, 4, 5, 6, 7] 50 (.bool t67) ?_ ?_
  ·clear hg_t67
   refine gg ?_
   obtain ⟨t78, hg_t78, ho⟩ := bind_some ho
   refine SP.jn 4 [3, 4, 5, 6, 7] 55 (.bool t78) ?_ ?_
   ·clear hg_t78
    refine gg ?_
    obtain ⟨t82, hg_t82, ho⟩ := bind_some ho
    refine SP.jn 4 [3, 4, 5, 6, 7] 60 (.bool t82) ?_ ?_
    ·clear hg_t82
     refine gg ?_
     obtain ⟨t86, hg_t86, ho⟩ := bind_some ho
     refine SP.jn 4 [4, 5, 6, 7] 65 (.bool t86) ?_ ?_
     ·clear hg_t86
      refine gg ?_
      obtain ⟨t90, hg_t90, ho⟩ := bind_some ho
      refine SP.jn 4 [5, 6, 7] 70 (.bool t90) ?_ ?_
      ·clear hg_t90
       refine gg ?_
       refine SP.jn 3 [5, 6] 74 (.bool (t90 && (decide (t50.2.2 = 0)))) ?_ ?_
       ·refine gg ?_
        refine SP.jn 4 [5] 79 (.bool ((t90 && (decide (t50.2.2 = 0))) && (decide ((t50.2.1.length : Int) = 0)))) ?_ ?_
        ·refine gg ?_
         refine SP.jn 4 [5] 84 (.bool (((t90 && (decide (t50.2.2 = 0))) && (decide ((t50.2.1.length : Int) = 0))) && (decide (t50.1.Migrate = (-1))))) ?_ ?_
         ·refine gg ?_
          refine SP.jn 5 [] 90 (.bool ((((t90 && (decide (t50.2.2 = 0))) && (decide ((t50.2.1.length : Int) = 0))) && (decide (t50.1.Migrate = (-1)))) && (decide ((t50.1.Methods.length : Int) = 0)))) ?_ ?_
          ·refine gg ?_
           exact Option.some.inj ho ▸ rt
          refine SP.bb 85 (fun hq98 => ?_) fun hq98 => ?_
          ·refine gg ?_
           refine SP.val (Val.lenW (fun w2 hw => slD.flat (St.own 3 rfl see.sub see.dj hw) (Sub.refl _) (Sub.refl _)) Tryz.underlying23 rfl) rfl rfl rfl (gg ?_)
           exact QE.jb (and_t hq98 rfl) fun w2 hw => hw
          refine gg ?_
          exact QE.jb (and_f hq98) fun w2 hw => hw
         refine SP.bb 80 (fun hq96 => ?_) fun hq96 => ?_
         ·refine gg ?_
          exact QE.jb (and_t hq96 rfl) fun w2 hw => hw
         refine gg ?_
         exact QE.jb (and_f hq96) fun w2 hw => hw
        refine SP.bb 75 (fun hq94 => ?_) fun hq94 => ?_
        ·refine gg ?_
         exact QE.jb (and_t hq94 rfl) fun w2 hw => hw
        refine gg ?_
        exact QE.jb (and_f hq94) fun w2 hw => hw
       refine SP.bb 71 (fun hq92 => ?_) fun hq92 => ?_
       ·refine gg ?_
        exact QE.jb (and_t hq92 rfl) fun w2 hw => hw
       refine gg ?_
       exact QE.jb (and_f hq92) fun w2 hw => hw
      refine SP.cb 66 hg_t90 (fun hq88 ho => ?_) fun hq88 ho => ?_
      ·refine gg ?_
       obtain ⟨t89, hc, ho⟩ := bind_some ho
       refine SP.callVO see (caps := []) (.int .i64 t89) fn12.h rfl rfl rfl rfl (fun w2 hs => verify_May.ok _ hc w2 (hp w2) (Sub.refl _) (aS (slO.read (St.own 6 rfl see.sub see.dj hs) (Sub.refl _) (Sub.refl _)) (aS (slO.read (St.own 7 rfl see.sub see.dj hs) (Sub.refl _) (Sub.refl _)) (aS (slO.read (St.own 8 rfl see.sub see.dj hs) (Sub.refl _) (Sub.refl _)) (All.cons ((St.pers 5 rfl see.sub see.dj hs)) (All.nil _)))))) ?_
       clear hc
       refine gg ?_
       obtain rfl := Option.some.inj ho
       exact QE.jn fun w2 hw => hw
      refine gg ?_
      obtain rfl := Option.some.inj ho
      exact QE.jn fun w2 hw => hw
     refine SP.cb 61 hg_t86 (fun hq84 ho => ?_) fun hq84 ho => ?_
     ·refine gg ?_
      obtain ⟨t85, hc, ho⟩ := bind_some ho
      refine SP.callVO see (caps := []) (.int .i64 t85) fn13.h rfl rfl rfl rfl (fun w2 hs => verify_Blame.ok _ hc w2 (hp w2) (Sub.refl _) (aS (slO.read (St.own 10 rfl see.sub see.dj hs) (Sub.refl _) (Sub.refl _)) (aS (slO.read (St.own 11 rfl see.sub see.dj hs) (Sub.refl _) (Sub.refl _)) (aS (slO.read (St.own 12 rfl see.sub see.dj hs) (Sub.refl _) (Sub.refl _)) (All.cons ((St.pers 5 rfl see.sub see.dj hs)) (All.nil _)))))) ?_
      clear hc
      refine gg ?_
      obtain rfl := Option.some.inj ho
      exact QE.jn fun w2 hw => hw
     refine gg ?_
     obtain rfl := Option.some.inj ho
     exact QE.jn fun w2 hw => hw
    refine SP.cb 56 hg_t82 (fun hq80 ho => ?_) fun hq80 ho => ?_
    ·refine gg ?_
     obtain ⟨t81, hc, ho⟩ := bind_some ho
     refine SP.callVO see (caps := []) (.int .i64 t81) fn12.h rfl rfl rfl rfl (fun w2 hs => verify_May.ok _ hc w2 (hp w2) (Sub.refl _) (aS (slO.read (St.own 10 rfl see.sub see.dj hs) (Sub.refl _) (Sub.refl _)) (aS (slO.read (St.own 11 rfl see.sub see.dj hs) (Sub.refl _) (Sub.refl _)) (aS (slO.read (St.own 12 rfl see.sub see.dj hs) (Sub.refl _) (Sub.refl _)) (All.cons ((St.pers 5 rfl see.sub see.dj hs)) (All.nil _)))))) ?_
     clear hc
     refine gg ?_
     obtain rfl := Option.some.inj ho
     exact QE.jn fun w2 hw => hw
    refine gg ?_
    obtain rfl := Option.some.inj ho
    exact QE.jn fun w2 hw => hw
   refine SP.cb 51 hg_t78 (fun hq69 ho => ?_) fun hq69 ho => ?_
   ·obtain ⟨t70, hc, ho⟩ := bind_some (x := capstanlaw14_small.f 1) ho
    refine SP.callK see (caps := []) _ fn11.h rfl rfl rfl rfl (fun w2 hP hs sub ap => capstanlaw14_small.ok _ hc w2 hP sub (All.nil _)) (SP.k3 fun v71 v72 v73 => ?_)
    clear hc
    obtain ⟨t77, hc, ho⟩ := bind_some ho
    refine SP.callVO see (caps := []) (.int .i64 t77) fn12.h rfl rfl rfl rfl (fun w2 hs => verify_May.ok _ hc w2 (hp w2) (Sub.refl _) (aS (slO.read (St.own 0 rfl see.sub see.dj hs) (Sub.refl _) (Sub.refl _)) (aS (slO.read (St.own 1 rfl see.sub see.dj hs) (Sub.refl _) (Sub.refl _)) (aS (slO.read (St.own 2 rfl see.sub see.dj hs) (Sub.refl _) (Sub.refl _)) (All.cons ((St.pers 5 rfl see.sub see.dj hs)) (All.nil _)))))) ?_
    clear hc
    refine gg ?_
    obtain rfl := Option.some.inj ho
    exact QE.jn fun w2 hw => (St.selO [3, 4, 5, 6, 7, 8, 9, 10, 11, 12, 13, 14, 15, 16, 17, 18, 19] rfl rfl hw)
   refine gg ?_
   obtain rfl := Option.some.inj ho
   exact QE.jn fun w2 hw => hw
  refine SP.cb 44 hg_t67 (fun hq64 ho => ?_) fun hq64 ho => ?_
  ·refine gg ?_
   obtain ⟨x66, hx_x66, ho⟩ := elt_bind ho
   refine SP.indexW (fun w2 hw => slO.whole (St.own 13 rfl see.sub see.dj hw)) Tryz.underlying29 sz45.h hx_x66.1 hx_x66.2 rfl rfl rfl rfl (fun p65 h_p65 => ?_)
   refine SP.val (Val.loadOA see 13 rfl hx_x66.2 h_p65 (fun _ _ e => e) Tryz.underlying45 rfl sz45.h rfl) rfl rfl rfl ?_
   refine bd [.int .i64 2, .int .i64 1, .int .i64 0] ?_
   refine SP.val (Val.eqlA (by kernel_rfl) (fun w2 => eqA45 9998 w2 x66.Fuel 2 x66.Stack 1 x66.Heap 0) rfl rfl) rfl rfl rfl (gg ?_)
   obtain rfl := Option.some.inj ho
   exact QE.jn fun w2 hw => hw
  refine gg ?_
  obtain rfl := Option.some.inj ho
  exact QE.jn fun w2 hw => hw
 refine SP.bb 39 (fun hq62 => ?_) fun hq62 => ?_
 ·refine gg ?_
  exact QE.jb (and_t hq62 rfl) fun w2 hw => hw
 refine gg ?_
 exact QE.jb (and_f hq62) fun w2 hw => hw
def capstanlaw07_Great.f (m_0 : api_Method) : Option Bool :=
  some ((decide ((m_0.Args.length : Int) > 100)) || (decide ((m_0.Locals.length : Int) > 100)))
theorem capstanlaw07_Great.ok {m_0 v_m_0_Args v_m_0_Locals v_m_0_Code} (r) (ho : capstanlaw07_Great.f m_0 = some r) : Ok Tryz.prog 14 [.agg #[v_m_0_Args, v_m_0_Locals, .int .u8 m_0.Result, .bool m_0.Reads, .int .i64 m_0.Fuel, .int .i64 m_0.Stack, .int .i64 m_0.Heap, v_m_0_Code]] [slP (kInt .u8) v_m_0_Args m_0.Args, slP (kInt .u8) v_m_0_Locals m_0.Locals, slP k_api_Instr v_m_0_Code m_0.Code] fun v => HO.pure (v = .bool r) := by
 refine oq 13 Tryz.func14 fun w hV see pb => ?_
 refine SP.box rfl rfl rfl rfl fun b4 => gg ?_
 refine SP.jn 5 [] 12 (.bool ((decide ((m_0.Args.length : Int) > 100)) || (decide ((m_0.Locals.length : Int) > 100)))) ?_ ?_
 ·refine gg ?_
  exact Option.some.inj ho ▸ rt
 refine SP.bb 7 (fun hq7 => ?_) fun hq7 => ?_
 ·refine gg ?_
  exact QE.jb (or_t hq7) fun w2 hw => hw
 refine gg ?_
 exact QE.jb (or_f hq7 rfl) fun w2 hw => hw
inductive capstanlaw08_Great.S where
  | start
  | l1 (x31 : Int)
def capstanlaw08_Great.F (m_0 : api_Module) : capstanlaw08_Great.S → Option (capstanlaw08_Great.S ⊕ Bool)
  | .start => if (((decide ((m_0.Globals.length : Int) > 100)) || (decide ((m_0.Pool.length : Int) > 100))) || (decide ((m_0.Methods.length : Int) > 40))) = true then (some (.inr true)) else (some (.inl (.l1 0)))
  | .l1 x31 => if x31 < (m_0.Methods.length : Int) then ((elt m_0.Methods x31).bind fun x35 => (capstanlaw07_Great.f x35).bind fun t42 => (if t42 = true then (some true) else ((elt m_0.Methods x31).bind fun x47 => some (decide ((x47.Code.length : Int) > 300)))).bind fun t52 => if t52 = true then (some (.inr true)) else (some (.inl (.l1 (IntKind.i64.wrap (x31 + 1)))))) else (some (.inr false))
def capstanlaw08_Great.f (m_0 : api_Module) : Option Bool := runF (capstanlaw08_Great.F m_0) .start
theorem capstanlaw08_Great.ok {m_0 v_m_0_Globals v_m_0_Pool v_m_0_Methods} (r) (H : capstanlaw08_Great.f m_0 = some r) : Ok Tryz.prog 5 [.agg #[v_m_0_Globals, v_m_0_Pool, v_m_0_Methods, .int .i64 m_0.Migrate]] [slP k_api_Value v_m_0_Globals m_0.Globals, slP k_api_Value v_m_0_Pool m_0.Pool, slP k_api_Method v_m_0_Methods m_0.Methods] fun v => HO.pure (v = .bool r) := by
 refine oq 43 Tryz.func5 fun w hV see pb => ?_
 obtain ⟨m0, o, ho, hr⟩ := rn H
 refine SP.box rfl rfl rfl rfl fun b4 => gg ?_
 refine SP.jn 5 [1] 13 (.bool ((decide ((m_0.Globals.length : Int) > 100)) || (decide ((m_0.Pool.length : Int) > 100)))) ?_ ?_
 ·refine gg ?_
  refine SP.jn 5 [1] 19 (.bool (((decide ((m_0.Globals.length : Int) > 100)) || (decide ((m_0.Pool.length : Int) > 100))) || (decide ((m_0.Methods.length : Int) > 40)))) ?_ ?_
  ·refine gg ?_
   refine cb ho (fun ho => ?_) fun ho => ?_
   ·exact fin ho hr ▸ rt
   refine lo ho hr (fun z => ∃ x31, z (.l1 x31) [(1, .pointer (some ⟨b4, 0, none⟩)), (3, .int .i64 x31)] [boxO b4 [v_m_0_Globals, v_m_0_Pool, v_m_0_Methods, .int .i64 m_0.Migrate] 25]) (fun _ z => ⟨0, z⟩) ?_
   rintro _ _ _ ⟨x31, m32, o, _, _, ho, hr, h⟩
   refine en h ?_
   refine ci ho (fun ho => ?_) fun ho => ?_
   ·obtain ⟨x35, hx, ho⟩ := elt_bind ho
    refine SP.indexP see 2 rfl Tryz.underlying23 sz43.h hx.1 hx.2 rfl rfl rfl rfl (fun p33 => ?_)
    clear hx
    refine k_api_Method.load see 0 rfl Tryz.underlying43 rfl sz43.h rfl rfl rfl (fun v36 v38 v40 => ?_)
    refine kv capstanlaw07_Great.ok ho fun t42 ho => ?_
    obtain ⟨t52, hg_t52, ho⟩ := bind_some ho
    refine SP.jn 9 [1, 3] 42 (.bool t52) ?_ ?_
    ·clear hg_t52
     refine gg ?_
     refine cb ho (fun ho => ?_) fun ho => ?_
     ·exact fin ho hr ▸ rt
     exact lw ho hr (fun _ z => ⟨(IntKind.i64.wrap (x31 + 1)), z⟩)
    refine SP.cb 33 hg_t52 (fun hq44 ho => ?_) fun hq44 ho => ?_
    ·refine gg ?_
     obtain rfl := Option.some.inj ho
     exact QE.jn fun w2 hw => hw
    refine gg ?_
    obtain ⟨x47, hx, ho⟩ := elt_bind ho
    refine SP.indexP see 6 rfl Tryz.underlying23 sz43.h hx.1 hx.2 rfl rfl rfl rfl (fun p45 => ?_)
    clear hx
    refine SP.fieldP see 0 rfl Tryz.underlying43 rfl sz41.h k_api_Method.part_Code rfl rfl rfl (fun p48 => ?_)
    refine SP.loadPS see 0 rfl Tryz.underlying41 rfl rfl rfl (fun v50 => gg ?_)
    obtain rfl := Option.some.inj ho
    exact QE.jn fun w2 hw => (St.selP [3, 4, 5, 6, 7, 8, 9] rfl hw)
   exact fin ho hr ▸ rt
  refine SP.bb 14 (fun hq9 => ?_) fun hq9 => ?_
  ·refine gg ?_
   exact QE.jb (or_t hq9) fun w2 hw => hw
  refine gg ?_
  exact QE.jb (or_f hq9 rfl) fun w2 hw => hw
 refine SP.bb 8 (fun hq7 => ?_) fun hq7 => ?_
 ·refine gg ?_
  exact QE.jb (or_t hq7) fun w2 hw => hw
 refine gg ?_
 exact QE.jb (or_f hq7 rfl) fun w2 hw => hw
inductive capstanref03_Same.S where
  | start
  | l1 (x12 : Int)
def capstanref03_Same.F (a_0 b_1 : List api_Value) : capstanref03_Same.S → Option (capstanref03_Same.S ⊕ Bool)
  | .start => if (a_0.length : Int) ≠ (b_1.length : Int) then (some (.inr false)) else (some (.inl (.l1 0)))
  | .l1 x12 => if x12 < (a_0.length : Int) then ((elt a_0 x12).bind fun x16 => (elt b_1 x12).bind fun x20 => if (!(x16.Kind == x20.Kind && (x16.A == x20.A && (x16.B == x20.B)))) = true then (some (.inr false)) else (some (.inl (.l1 (IntKind.i64.wrap (x12 + 1)))))) else (some (.inr true))
def capstanref03_Same.f (a_0 b_1 : List api_Value) : Option Bool := runF (capstanref03_Same.F a_0 b_1) .start
theorem capstanref03_Same.ok {a_0 b_1 v_a_0 v_b_1} (r) (H : capstanref03_Same.f a_0 b_1 = some r) : Ok Tryz.prog 18 [v_a_0, v_b_1] [slP k_api_Value v_a_0 a_0, slP k_api_Value v_b_1 b_1] fun v => HO.pure (v = .bool r) := by
 refine oq 26 Tryz.func18 fun w hV see pb => ?_
 obtain ⟨m0, o, ho, hr⟩ := rn H
 refine ci ho (fun ho => ?_) fun ho => ?_
 ·exact fin ho hr ▸ rt
 refine lo ho hr (fun z => ∃ x12, z (.l1 x12) [(0, v_a_0), (1, v_b_1), (5, .int .i64 x12)] []) (fun _ z => ⟨0, z⟩) ?_
 rintro _ _ _ ⟨x12, m13, o, _, _, ho, hr, h⟩
 refine en h ?_
 refine ci ho (fun ho => ?_) fun ho => ?_
 ·refine CP.drawA (by kernel_rfl) (fun w2 k h => h.drawn k) ?_
  obtain ⟨x16, hx, ho⟩ := elt_bind ho
  refine DA.ghost (fun w2 h => h.elem see 0 rfl hx.1 hx.2) (fun p14 h_p14 => ?_)
  clear hx
  refine DA.ghost (fun w2 h => h.openE see 0 rfl (fun _ : Unit => [.int .u8 x16.Kind, .int .i64 x16.A, .int .i64 x16.B]) (fun _ => []) (fun h cs e => ⟨(), e, All.nil _⟩)) (fun _ _ => ?_)
  obtain ⟨x20, hx, ho⟩ := elt_bind ho
  refine DA.ghost (fun w2 h => h.elem see 3 rfl hx.1 hx.2) (fun p18 h_p18 => ?_)
  clear hx
  refine DA.ghost (fun w2 h => h.openE see 0 rfl (fun _ : Unit => [.int .u8 x20.Kind, .int .i64 x20.A, .int .i64 x20.B]) (fun _ => []) (fun h cs e => ⟨(), e, All.nil _⟩)) (fun _ _ => ?_)
  refine DA.ph 0 8 ?_
  refine DT.tk 0 ?_
  refine DT.tk 1 ?_
  refine DT.tv 2 rfl (Val.indexE h_p14 Tryz.underlying22 sz55.h rfl rfl) ?_
  refine DT.tv 3 rfl (Val.loadAtA see 2 rfl Tryz.underlying55 rfl sz55.h rfl) ?_
  refine DT.tk 4 ?_
  refine DT.tk 5 ?_
  refine DT.tv 6 rfl (Val.indexE h_p18 Tryz.underlying22 sz55.h rfl rfl) ?_
  refine DT.tv 7 rfl (Val.loadAtA see 0 rfl Tryz.underlying55 rfl sz55.h rfl) ?_
  refine DT.next (by kernel_rfl) ?_
  refine DA.one 8 rfl (by kernel_rfl) ?_
  refine SP.val (Val.neqA (by kernel_rfl) (fun w2 => eqA55 9998 w2 x16.Kind x20.Kind x16.A x20.A x16.B x20.B) rfl rfl) rfl rfl rfl (gg ?_)
  refine QE.atA ?_
  refine DA.done (by kernel_rfl) (gg ?_)
  refine cb ho (fun ho => ?_) fun ho => ?_
  ·exact fin ho hr ▸ rt
  exact lw ho hr (fun _ z => ⟨(IntKind.i64.wrap (x12 + 1)), z⟩)
 exact fin ho hr ▸ rt
inductive capstanref07_SameKinds.S where
  | start
  | l1 (x12 : Int)
def capstanref07_SameKinds.F (a_0 b_1 : List Int) : capstanref07_SameKinds.S → Option (capstanref07_SameKinds.S ⊕ Bool)
  | .start => if (a_0.length : Int) ≠ (b_1.length : Int) then (some (.inr false)) else (some (.inl (.l1 0)))
  | .l1 x12 => if x12 < (a_0.length : Int) then ((elt a_0 x12).bind fun x16 => (elt b_1 x12).bind fun x20 => if x16 ≠ x20 then (some (.inr false)) else (some (.inl (.l1 (IntKind.i64.wrap (x12 + 1)))))) else (some (.inr true))
def capstanref07_SameKinds.f (a_0 b_1 : List Int) : Option Bool := runF (capstanref07_SameKinds.F a_0 b_1) .start
theorem capstanref07_SameKinds.ok {a_0 b_1 v_a_0 v_b_1} (r) (H : capstanref07_SameKinds.f a_0 b_1 = some r) : Ok Tryz.prog 40 [v_a_0, v_b_1] [slP (kInt .u8) v_a_0 a_0, slP (kInt .u8) v_b_1 b_1] fun v => HO.pure (v = .bool r) := by
 refine oq 26 Tryz.func40 fun w hV see pb => ?_
 obtain ⟨m0, o, ho, hr⟩ := rn H
 refine ci ho (fun ho => ?_) fun ho => ?_
 ·exact fin ho hr ▸ rt
 refine lo ho hr (fun z => ∃ x12, z (.l1 x12) [(0, v_a_0), (1, v_b_1), (5, .int .i64 x12)] []) (fun _ z => ⟨0, z⟩) ?_
 rintro _ _ _ ⟨x12, m13, o, _, _, ho, hr, h⟩
 refine en h ?_
 refine ci ho (fun ho => ?_) fun ho => ?_
 ·refine CP.drawA (by kernel_rfl) (fun w2 k h => h.drawn k) ?_
  obtain ⟨x16, hx, ho⟩ := elt_bind ho
  refine DA.ghost (fun w2 h => h.elem see 0 rfl hx.1 hx.2) (fun p14 h_p14 => ?_)
  clear hx
  refine DA.ghost (fun w2 h => h.openE see 0 rfl (fun _ : Unit => [.int .u8 x16]) (fun _ => []) (fun h cs e => ⟨(), e, All.nil _⟩)) (fun _ _ => ?_)
  obtain ⟨x20, hx, ho⟩ := elt_bind ho
  refine DA.ghost (fun w2 h => h.elem see 3 rfl hx.1 hx.2) (fun p18 h_p18 => ?_)
  clear hx
  refine DA.ghost (fun w2 h => h.openE see 0 rfl (fun _ : Unit => [.int .u8 x20]) (fun _ => []) (fun h cs e => ⟨(), e, All.nil _⟩)) (fun _ _ => ?_)
  refine DA.ph 0 8 ?_
  refine DT.tk 0 ?_
  refine DT.tk 1 ?_
  refine DT.tv 2 rfl (Val.indexE h_p14 Tryz.underlying26 sz5.h rfl rfl) ?_
  refine DT.tv 3 rfl (Val.loadAt1 see 2 rfl Tryz.underlying5 rfl rfl) ?_
  refine DT.tk 4 ?_
  refine DT.tk 5 ?_
  refine DT.tv 6 rfl (Val.indexE h_p18 Tryz.underlying26 sz5.h rfl rfl) ?_
  refine DT.tv 7 rfl (Val.loadAt1 see 0 rfl Tryz.underlying5 rfl rfl) ?_
  refine DT.next (by kernel_rfl) ?_
  refine DA.one 8 rfl (by kernel_rfl) (gg ?_)
  refine QE.atA ?_
  refine DA.done (by kernel_rfl) (gg ?_)
  refine ci ho (fun ho => ?_) fun ho => ?_
  ·exact fin ho hr ▸ rt
  exact lw ho hr (fun _ z => ⟨(IntKind.i64.wrap (x12 + 1)), z⟩)
 exact fin ho hr ▸ rt
def capstanref07_Same.f (a_0 b_1 : api_Method) : Option Bool :=
  (capstanref07_SameKinds.f a_0.Args b_1.Args).bind fun t11 => (if t11 = true then ((capstanref07_SameKinds.f a_0.Locals b_1.Locals).bind fun t14 => some t14) else (some false)).bind fun t15 => some (((((t15 && (decide (a_0.Result = b_1.Result))) && (a_0.Reads == b_1.Reads)) && (decide (a_0.Fuel = b_1.Fuel))) && (decide (a_0.Stack = b_1.Stack))) && (decide (a_0.Heap = b_1.Heap)))
theorem capstanref07_Same.ok {a_0 b_1 v_a_0_Args v_a_0_Locals v_a_0_Code v_b_1_Args v_b_1_Locals v_b_1_Code} (r) (ho : capstanref07_Same.f a_0 b_1 = some r) : Ok Tryz.prog 19 [.agg #[v_a_0_Args, v_a_0_Locals, .int .u8 a_0.Result, .bool a_0.Reads, .int .i64 a_0.Fuel, .int .i64 a_0.Stack, .int .i64 a_0.Heap, v_a_0_Code], .agg #[v_b_1_Args, v_b_1_Locals, .int .u8 b_1.Result, .bool b_1.Reads, .int .i64 b_1.Fuel, .int .i64 b_1.Stack, .int .i64 b_1.Heap, v_b_1_Code]] [slP (kInt .u8) v_a_0_Args a_0.Args, slP (kInt .u8) v_a_0_Locals a_0.Locals, slP k_api_Instr v_a_0_Code a_0.Code, slP (kInt .u8) v_b_1_Args b_1.Args, slP (kInt .u8) v_b_1_Locals b_1.Locals, slP k_api_Instr v_b_1_Code b_1.Code] fun v => HO.pure (v = .bool r) := by
 refine oq 52 Tryz.func19 fun w hV see pb => ?_
 refine SP.box rfl rfl rfl rfl fun b7 => ?_
 refine SP.box rfl rfl rfl rfl fun b9 => gg ?_
 refine kv capstanref07_SameKinds.ok ho fun t11 ho => ?_
 obtain ⟨t15, hg_t15, ho⟩ := bind_some ho
 refine SP.jn 6 [2, 3] 16 (.bool t15) ?_ ?_
 ·clear hg_t15
  refine gg ?_
  refine SP.jn 6 [2, 3] 23 (.bool (t15 && (decide (a_0.Result = b_1.Result)))) ?_ ?_
  ·refine gg ?_
   refine SP.jn 6 [2, 3] 30 (.bool ((t15 && (decide (a_0.Result = b_1.Result))) && (a_0.Reads == b_1.Reads))) ?_ ?_
   ·refine gg ?_
    refine SP.jn 6 [2, 3] 37 (.bool (((t15 && (decide (a_0.Result = b_1.Result))) && (a_0.Reads == b_1.Reads)) && (decide (a_0.Fuel = b_1.Fuel)))) ?_ ?_
    ·refine gg ?_
     refine SP.jn 6 [2, 3] 44 (.bool ((((t15 && (decide (a_0.Result = b_1.Result))) && (a_0.Reads == b_1.Reads)) && (decide (a_0.Fuel = b_1.Fuel))) && (decide (a_0.Stack = b_1.Stack)))) ?_ ?_
     ·refine gg ?_
      refine SP.jn 6 [] 51 (.bool (((((t15 && (decide (a_0.Result = b_1.Result))) && (a_0.Reads == b_1.Reads)) && (decide (a_0.Fuel = b_1.Fuel))) && (decide (a_0.Stack = b_1.Stack))) && (decide (a_0.Heap = b_1.Heap)))) ?_ ?_
      ·refine gg ?_
       exact Option.some.inj ho ▸ rt
      refine SP.bb 45 (fun hq25 => ?_) fun hq25 => ?_
      ·refine gg ?_
       exact QE.jb (and_t hq25 rfl) fun w2 hw => hw
      refine gg ?_
      exact QE.jb (and_f hq25) fun w2 hw => hw
     refine SP.bb 38 (fun hq23 => ?_) fun hq23 => ?_
     ·refine gg ?_
      exact QE.jb (and_t hq23 rfl) fun w2 hw => hw
     refine gg ?_
     exact QE.jb (and_f hq23) fun w2 hw => hw
    refine SP.bb 31 (fun hq21 => ?_) fun hq21 => ?_
    ·refine gg ?_
     exact QE.jb (and_t hq21 rfl) fun w2 hw => hw
    refine gg ?_
    exact QE.jb (and_f hq21) fun w2 hw => hw
   refine SP.bb 24 (fun hq19 => ?_) fun hq19 => ?_
   ·refine gg ?_
    refine SP.val (Val.eqlB Tryz.underlying4 rfl rfl) rfl rfl rfl (gg ?_)
    exact QE.jb (and_t hq19 rfl) fun w2 hw => hw
   refine gg ?_
   exact QE.jb (and_f hq19) fun w2 hw => hw
  refine SP.bb 17 (fun hq17 => ?_) fun hq17 => ?_
  ·refine gg ?_
   exact QE.jb (and_t hq17 rfl) fun w2 hw => hw
  refine gg ?_
  exact QE.jb (and_f hq17) fun w2 hw => hw
 refine SP.cb 10 hg_t15 (fun hq13 ho => ?_) fun hq13 ho => ?_
 ·refine gg ?_
  refine kv capstanref07_SameKinds.ok ho fun t14 ho => ?_
  obtain rfl := Option.some.inj ho
  exact QE.jn fun w2 hw => hw
 refine gg ?_
 obtain rfl := Option.some.inj ho
 exact QE.jn fun w2 hw => hw
inductive capstanref05_Same.S where
  | start
  | l1 (x12 : Int)
def capstanref05_Same.F (a_0 b_1 : List api_Instr) : capstanref05_Same.S → Option (capstanref05_Same.S ⊕ Bool)
  | .start => if (a_0.length : Int) ≠ (b_1.length : Int) then (some (.inr false)) else (some (.inl (.l1 0)))
  | .l1 x12 => if x12 < (a_0.length : Int) then ((elt a_0 x12).bind fun x16 => (elt b_1 x12).bind fun x20 => if (!(x16.Op == x20.Op && (x16.A == x20.A && (x16.B == x20.B)))) = true then (some (.inr false)) else (some (.inl (.l1 (IntKind.i64.wrap (x12 + 1)))))) else (some (.inr true))
def capstanref05_Same.f (a_0 b_1 : List api_Instr) : Option Bool := runF (capstanref05_Same.F a_0 b_1) .start
theorem capstanref05_Same.ok {a_0 b_1 v_a_0 v_b_1} (r) (H : capstanref05_Same.f a_0 b_1 = some r) : Ok Tryz.prog 20 [v_a_0, v_b_1] [slP k_api_Instr v_a_0 a_0, slP k_api_Instr v_b_1 b_1] fun v => HO.pure (v = .bool r) := by
 refine oq 26 Tryz.func20 fun w hV see pb => ?_
 obtain ⟨m0, o, ho, hr⟩ := rn H
 refine ci ho (fun ho => ?_) fun ho => ?_
 ·exact fin ho hr ▸ rt
 refine lo ho hr (fun z => ∃ x12, z (.l1 x12) [(0, v_a_0), (1, v_b_1), (5, .int .i64 x12)] []) (fun _ z => ⟨0, z⟩) ?_
 rintro _ _ _ ⟨x12, m13, o, _, _, ho, hr, h⟩
 refine en h ?_
 refine ci ho (fun ho => ?_) fun ho => ?_
 ·refine CP.drawA (by kernel_rfl) (fun w2 k h => h.drawn k) ?_
  obtain ⟨x16, hx, ho⟩ := elt_bind ho
  refine DA.ghost (fun w2 h => h.elem see 0 rfl hx.1 hx.2) (fun p14 h_p14 => ?_)
  clear hx
  refine DA.ghost (fun w2 h => h.openE see 0 rfl (fun _ : Unit => [.int .u8 x16.Op, .int .i64 x16.A, .int .i64 x16.B]) (fun _ => []) (fun h cs e => ⟨(), e, All.nil _⟩)) (fun _ _ => ?_)
  obtain ⟨x20, hx, ho⟩ := elt_bind ho
  refine DA.ghost (fun w2 h => h.elem see 3 rfl hx.1 hx.2) (fun p18 h_p18 => ?_)
  clear hx
  refine DA.ghost (fun w2 h => h.openE see 0 rfl (fun _ : Unit => [.int .u8 x20.Op, .int .i64 x20.A, .int .i64 x20.B]) (fun _ => []) (fun h cs e => ⟨(), e, All.nil _⟩)) (fun _ _ => ?_)
  refine DA.ph 0 8 ?_
  refine DT.tk 0 ?_
  refine DT.tk 1 ?_
  refine DT.tv 2 rfl (Val.indexE h_p14 Tryz.underlying41 sz57.h rfl rfl) ?_
  refine DT.tv 3 rfl (Val.loadAtA see 2 rfl Tryz.underlying57 rfl sz57.h rfl) ?_
  refine DT.tk 4 ?_
  refine DT.tk 5 ?_
  refine DT.tv 6 rfl (Val.indexE h_p18 Tryz.underlying41 sz57.h rfl rfl) ?_
  refine DT.tv 7 rfl (Val.loadAtA see 0 rfl Tryz.underlying57 rfl sz57.h rfl) ?_
  refine DT.next (by kernel_rfl) ?_
  refine DA.one 8 rfl (by kernel_rfl) ?_
  refine SP.val (Val.neqA (by kernel_rfl) (fun w2 => eqA57 9998 w2 x16.Op x20.Op x16.A x20.A x16.B x20.B) rfl rfl) rfl rfl rfl (gg ?_)
  refine QE.atA ?_
  refine DA.done (by kernel_rfl) (gg ?_)
  refine cb ho (fun ho => ?_) fun ho => ?_
  ·exact fin ho hr ▸ rt
  exact lw ho hr (fun _ z => ⟨(IntKind.i64.wrap (x12 + 1)), z⟩)
 exact fin ho hr ▸ rt
inductive capstanref08_Same.S where
  | start
  | l1 (x64 : Int)
def capstanref08_Same.j1 (a_0 b_1 : api_Module) (x64 : Int) (b106 : Bool) : Option (capstanref08_Same.S ⊕ Bool) :=
  if b106 = true then (some (.inr false)) else (some (.inl (.l1 (IntKind.i64.wrap (x64 + 1)))))
def capstanref08_Same.F (a_0 b_1 : api_Module) : capstanref08_Same.S → Option (capstanref08_Same.S ⊕ Bool)
  | .start => (if a_0.Migrate ≠ b_1.Migrate then (some true) else ((capstanref03_Same.f a_0.Globals b_1.Globals).bind fun t13 => some (!t13))).bind fun t14 => (if t14 = true then (some true) else ((capstanref03_Same.f a_0.Pool b_1.Pool).bind fun t17 => some (!t17))).bind fun t18 => if (t18 || (decide ((a_0.Methods.length : Int) ≠ (b_1.Methods.length : Int)))) = true then (some (.inr false)) else (some (.inl (.l1 0)))
  | .l1 x64 => if x64 < (a_0.Methods.length : Int) then ((elt a_0.Methods x64).bind fun x68 => (elt b_1.Methods x64).bind fun x78 => (capstanref07_Same.f x68 x78).bind fun t86 => if (!t86) = true then (capstanref08_Same.j1 a_0 b_1 x64 true) else ((elt a_0.Methods x64).bind fun x91 => (elt b_1.Methods x64).bind fun x99 => (capstanref05_Same.f x91.Code x99.Code).bind fun t105 => capstanref08_Same.j1 a_0 b_1 x64 (!t105))) else (some (.inr true))
def capstanref08_Same.f (a_0 b_1 : api_Module) : Option Bool := runF (capstanref08_Same.F a_0 b_1) .start
theorem capstanref08_Same.ok {a_0 b_1 v_a_0_Globals v_a_0_Pool v_a_0_Methods v_b_1_Globals v_b_1_Pool v_b_1_Methods} (r) (H : capstanref08_Same.f a_0 b_1 = some r) : Ok Tryz.prog 9 [.agg #[v_a_0_Globals, v_a_0_Pool, v_a_0_Methods, .int .i64 a_0.Migrate], .agg #[v_b_1_Globals, v_b_1_Pool, v_b_1_Methods, .int .i64 b_1.Migrate]] [slP k_api_Value v_a_0_Globals a_0.Globals, slP k_api_Value v_a_0_Pool a_0.Pool, slP k_api_Method v_a_0_Methods a_0.Methods, slP k_api_Value v_b_1_Globals b_1.Globals, slP k_api_Value v_b_1_Pool b_1.Pool, slP k_api_Method v_b_1_Methods b_1.Methods] fun v => HO.pure (v = .bool r) := by
 refine oq 71 Tryz.func9 fun w hV see pb => ?_
 obtain ⟨m0, o, ho, hr⟩ := rn H
 refine SP.box rfl rfl rfl rfl fun b7 => ?_
 refine SP.box rfl rfl rfl rfl fun b9 => gg ?_
 obtain ⟨t14, hg_t14, ho⟩ := bind_some ho
 refine SP.jn 7 [2, 3] 18 (.bool t14) ?_ ?_
 ·clear hg_t14
  refine gg ?_
  obtain ⟨t18, hg_t18, ho⟩ := bind_some ho
  refine SP.jn 7 [2, 3] 26 (.bool t18) ?_ ?_
  ·clear hg_t18
   refine gg ?_
   refine SP.jn 8 [2, 3] 35 (.bool (t18 || (decide ((a_0.Methods.length : Int) ≠ (b_1.Methods.length : Int))))) ?_ ?_
   ·refine gg ?_
    refine cb ho (fun ho => ?_) fun ho => ?_
    ·exact fin ho hr ▸ rt
    refine lo ho hr (fun z => ∃ x64, z (.l1 x64) [(2, .pointer (some ⟨b7, 0, none⟩)), (3, .pointer (some ⟨b9, 0, none⟩)), (5, .int .i64 x64)] [boxO b9 [v_b_1_Globals, v_b_1_Pool, v_b_1_Methods, .int .i64 b_1.Migrate] 25, boxO b7 [v_a_0_Globals, v_a_0_Pool, v_a_0_Methods, .int .i64 a_0.Migrate] 25]) (fun _ z => ⟨0, z⟩) ?_
    rintro _ _ _ ⟨x64, m65, o, _, _, ho, hr, h⟩
    refine en h ?_
    refine ci (ht := id) ho (fun ho => ?_) fun ho => ?_
    ·refine go ?_
     refine CP.seq ?_
     refine go ?_
     refine ji hr (fun z => ∃ b106, z (capstanref08_Same.j1 a_0 b_1 x64 b106) [(2, .pointer (some ⟨b7, 0, none⟩)), (3, .pointer (some ⟨b9, 0, none⟩)), (5, .int .i64 x64), (70, .bool b106)] [boxO b9 [v_b_1_Globals, v_b_1_Pool, v_b_1_Methods, .int .i64 b_1.Migrate] 25, boxO b7 [v_a_0_Globals, v_a_0_Pool, v_a_0_Methods, .int .i64 a_0.Migrate] 25]) ?_ ?_
     ·rintro _ _ ⟨b106, m107, o, _, ho, hr, h⟩
      refine en h ?_
      refine cb ho (fun ho => ?_) fun ho => ?_
      ·exact fin ho hr ▸ rt
      exact lw ho hr (fun _ z => ⟨(IntKind.i64.wrap (x64 + 1)), z⟩)
     refine CP.drawA (by kernel_rfl) (fun w2 k h => h.drawn k) ?_
     obtain ⟨x68, hx, ho⟩ := elt_bind ho
     refine DA.ghost (fun w2 h => h.elem see 2 rfl hx.1 hx.2) (fun p66 h_p66 => ?_)
     clear hx
     refine DA.ghost (fun w2 h => h.openE see 0 rfl (fun ((v69, v71, v73) : Value × Value × Value) => [v69, v71, .int .u8 x68.Result, .bool x68.Reads, .int .i64 x68.Fuel, .int .i64 x68.Stack, .int .i64 x68.Heap, v73]) (fun ((v69, v71, v73) : Value × Value × Value) => [slP (kInt .u8) v69 x68.Args, slP (kInt .u8) v71 x68.Locals, slP k_api_Instr v73 x68.Code]) (fun h cs ⟨v69, v71, v73, e, p0, p1, p2⟩ => ⟨(v69, v71, v73), e, All.cons p0 (All.cons p1 (All.cons p2 (All.nil _)))⟩)) (fun z_ _ => ?_)
     obtain ⟨v69, v71, v73⟩ := z_
     obtain ⟨x78, hx, ho⟩ := elt_bind ho
     refine DA.ghost (fun w2 h => h.elem see 10 rfl hx.1 hx.2) (fun p76 h_p76 => ?_)
     clear hx
     refine DA.ghost (fun w2 h => h.openE see 0 rfl (fun ((v79, v81, v83) : Value × Value × Value) => [v79, v81, .int .u8 x78.Result, .bool x78.Reads, .int .i64 x78.Fuel, .int .i64 x78.Stack, .int .i64 x78.Heap, v83]) (fun ((v79, v81, v83) : Value × Value × Value) => [slP (kInt .u8) v79 x78.Args, slP (kInt .u8) v81 x78.Locals, slP k_api_Instr v83 x78.Code]) (fun h cs ⟨v79, v81, v83, e, p0, p1, p2⟩ => ⟨(v79, v81, v83), e, All.cons p0 (All.cons p1 (All.cons p2 (All.nil _)))⟩)) (fun z_ _ => ?_)
     obtain ⟨v79, v81, v83⟩ := z_
     refine DA.ph 0 10 ?_
     refine DT.tk 0 ?_
     refine DT.tk 1 ?_
     refine DT.tk 2 ?_
     refine DT.tv 3 rfl (Val.indexE h_p66 Tryz.underlying23 sz43.h rfl rfl) ?_
     refine DT.tv 4 rfl (Val.loadAtA see 5 rfl Tryz.underlying43 rfl sz43.h rfl) ?_
     refine DT.tk 5 ?_
     refine DT.tk 6 ?_
     refine DT.tk 7 ?_
     refine DT.tv 8 rfl (Val.indexE h_p76 Tryz.underlying23 sz43.h rfl rfl) ?_
     refine DT.tv 9 rfl (Val.loadAtA see 0 rfl Tryz.underlying43 rfl sz43.h rfl) ?_
     refine DT.next (by kernel_rfl) ?_
     refine DA.one 10 rfl (by kernel_rfl) ?_
     refine kv capstanref07_Same.ok ho fun t86 ho => ?_
     refine QE.atA ?_
     refine DA.one 11 rfl (by kernel_rfl) (gg ?_)
     refine QE.atA ?_
     refine DA.one 12 rfl (by kernel_rfl) (gg ?_)
     refine QE.atA ?_
     rcases if_some ho with ⟨hc, ho⟩ | ⟨hc, ho⟩
     ·have hg87 := hc
      clear hc
      refine DA.ph 13 25 ?_
      refine DT.is (d := 55) (b := true) rfl hg87 ?_
      refine DT.tn 13 ?_
      refine DT.tn 14 ?_
      refine DT.tn 15 ?_
      refine DT.tn 16 ?_
      refine DT.tn 17 ?_
      refine DT.tn 18 ?_
      refine DT.tn 19 ?_
      refine DT.tn 20 ?_
      refine DT.tn 21 ?_
      refine DT.tn 22 ?_
      refine DT.tn 23 ?_
      refine DT.tn 24 ?_
      refine DT.next (by kernel_rfl) ?_
      refine DA.ph 25 26 ?_
      refine DT.tn 25 ?_
      refine DT.next (by kernel_rfl) ?_
      refine DA.ph 26 27 ?_
      refine DT.tn 26 ?_
      refine DT.next (by kernel_rfl) ?_
      refine DA.one 27 rfl (by kernel_rfl) (gg ?_)
      refine QE.atA ?_
      refine DA.done (by kernel_rfl) ?_
      exact mi ho hr (fun _ z => ⟨true, z⟩)
     have hg88 := (bf hc)
     clear hc
     obtain ⟨x91, hx, ho⟩ := elt_bind ho
     refine DA.ghost (fun w2 h => h.elem see 12 rfl hx.1 hx.2) (fun p89 h_p89 => ?_)
     clear hx
     refine DA.ghost (fun w2 h => h.fieldE see 0 rfl k_api_Method.part_Code) (fun p92 h_p92 => ?_)
     refine DA.ghost (fun w2 h => h.openE see 0 rfl (fun (v94 : Value) => [v94]) (fun (v94 : Value) => [slP k_api_Instr v94 x91.Code]) (fun h cs ⟨v94, e, p0⟩ => ⟨v94, e, All.cons p0 (All.nil _)⟩)) (fun z_ _ => ?_)
     rename Value => v94
     obtain ⟨x99, hx, ho⟩ := elt_bind ho
     refine DA.ghost (fun w2 h => h.elem see 19 rfl hx.1 hx.2) (fun p97 h_p97 => ?_)
     clear hx
     refine DA.ghost (fun w2 h => h.fieldE see 0 rfl k_api_Method.part_Code) (fun p100 h_p100 => ?_)
     refine DA.ghost (fun w2 h => h.openE see 0 rfl (fun (v102 : Value) => [v102]) (fun (v102 : Value) => [slP k_api_Instr v102 x99.Code]) (fun h cs ⟨v102, e, p0⟩ => ⟨v102, e, All.cons p0 (All.nil _)⟩)) (fun z_ _ => ?_)
     rename Value => v102
     refine DA.ph 13 25 ?_
     refine DT.is (d := 55) (b := false) rfl hg88 ?_
     refine DT.tk 13 ?_
     refine DT.tk 14 ?_
     refine DT.tk 15 ?_
     refine DT.tv 16 rfl (Val.indexE h_p89 Tryz.underlying23 sz43.h rfl rfl) ?_
     refine DT.tv 17 rfl (Val.fieldE h_p92 Tryz.underlying43 rfl rfl sz41.h rfl) ?_
     refine DT.tv 18 rfl (Val.loadAt1 see 4 rfl Tryz.underlying41 rfl rfl) ?_
     refine DT.tk 19 ?_
     refine DT.tk 20 ?_
     refine DT.tk 21 ?_
     refine DT.tv 22 rfl (Val.indexE h_p97 Tryz.underlying23 sz43.h rfl rfl) ?_
     refine DT.tv 23 rfl (Val.fieldE h_p100 Tryz.underlying43 rfl rfl sz41.h rfl) ?_
     refine DT.tv 24 rfl (Val.loadAt1 see 0 rfl Tryz.underlying41 rfl rfl) ?_
     refine DT.next (by kernel_rfl) ?_
     refine DA.one 25 rfl (by kernel_rfl) ?_
     refine kv capstanref05_Same.ok ho fun t105 ho => ?_
     refine QE.atA ?_
     refine DA.one 26 rfl (by kernel_rfl) (gg ?_)
     refine QE.atA ?_
     refine DA.one 27 rfl (by kernel_rfl) (gg ?_)
     refine QE.atA ?_
     refine DA.done (by kernel_rfl) ?_
     exact mi ho hr (fun _ z => ⟨(!t105), z⟩)
    exact fin ho hr ▸ rt
   refine SP.bb 27 (fun hq20 => ?_) fun hq20 => ?_
   ·refine gg ?_
    exact QE.jb (or_t hq20) fun w2 hw => hw
   refine gg ?_
   exact QE.jb (or_f hq20 rfl) fun w2 hw => hw
  refine SP.cb 19 hg_t18 (fun hq16 ho => ?_) fun hq16 ho => ?_
  ·refine gg ?_
   obtain rfl := Option.some.inj ho
   exact QE.jn fun w2 hw => hw
  refine gg ?_
  refine kv capstanref03_Same.ok ho fun t17 ho => ?_
  obtain rfl := Option.some.inj ho
  exact QE.jn fun w2 hw => hw
 refine SP.ci 11 hg_t14 (fun hq12 ho => ?_) fun hq12 ho => ?_
 ·refine gg ?_
  obtain rfl := Option.some.inj ho
  exact QE.jn fun w2 hw => hw
 refine gg ?_
 refine kv capstanref03_Same.ok ho fun t13 ho => ?_
 obtain rfl := Option.some.inj ho
 exact QE.jn fun w2 hw => hw
inductive capstanref12_Same.S where
  | start
  | l1 (x12 : Int)
def capstanref12_Same.F (a_0 b_1 : List api_Cert) : capstanref12_Same.S → Option (capstanref12_Same.S ⊕ Bool)
  | .start => if (a_0.length : Int) ≠ (b_1.length : Int) then (some (.inr false)) else (some (.inl (.l1 0)))
  | .l1 x12 => if x12 < (a_0.length : Int) then ((elt a_0 x12).bind fun x16 => (elt b_1 x12).bind fun x20 => if (!(x16.Fuel == x20.Fuel && (x16.Stack == x20.Stack && (x16.Heap == x20.Heap)))) = true then (some (.inr false)) else (some (.inl (.l1 (IntKind.i64.wrap (x12 + 1)))))) else (some (.inr true))
def capstanref12_Same.f (a_0 b_1 : List api_Cert) : Option Bool := runF (capstanref12_Same.F a_0 b_1) .start
theorem capstanref12_Same.ok {a_0 b_1 v_a_0 v_b_1} (r) (H : capstanref12_Same.f a_0 b_1 = some r) : Ok Tryz.prog 10 [v_a_0, v_b_1] [slP k_api_Cert v_a_0 a_0, slP k_api_Cert v_b_1 b_1] fun v => HO.pure (v = .bool r) := by
 refine oq 26 Tryz.func10 fun w hV see pb => ?_
 obtain ⟨m0, o, ho, hr⟩ := rn H
 refine ci ho (fun ho => ?_) fun ho => ?_
 ·exact fin ho hr ▸ rt
 refine lo ho hr (fun z => ∃ x12, z (.l1 x12) [(0, v_a_0), (1, v_b_1), (5, .int .i64 x12)] []) (fun _ z => ⟨0, z⟩) ?_
 rintro _ _ _ ⟨x12, m13, o, _, _, ho, hr, h⟩
 refine en h ?_
 refine ci ho (fun ho => ?_) fun ho => ?_
 ·refine CP.drawA (by kernel_rfl) (fun w2 k h => h.drawn k) ?_
  obtain ⟨x16, hx, ho⟩ := elt_bind ho
  refine DA.ghost (fun w2 h => h.elem see 0 rfl hx.1 hx.2) (fun p14 h_p14 => ?_)
  clear hx
  refine DA.ghost (fun w2 h => h.openE see 0 rfl (fun _ : Unit => [.int .i64 x16.Fuel, .int .i64 x16.Stack, .int .i64 x16.Heap]) (fun _ => []) (fun h cs e => ⟨(), e, All.nil _⟩)) (fun _ _ => ?_)
  obtain ⟨x20, hx, ho⟩ := elt_bind ho
  refine DA.ghost (fun w2 h => h.elem see 3 rfl hx.1 hx.2) (fun p18 h_p18 => ?_)
  clear hx
  refine DA.ghost (fun w2 h => h.openE see 0 rfl (fun _ : Unit => [.int .i64 x20.Fuel, .int .i64 x20.Stack, .int .i64 x20.Heap]) (fun _ => []) (fun h cs e => ⟨(), e, All.nil _⟩)) (fun _ _ => ?_)
  refine DA.ph 0 8 ?_
  refine DT.tk 0 ?_
  refine DT.tk 1 ?_
  refine DT.tv 2 rfl (Val.indexE h_p14 Tryz.underlying29 sz45.h rfl rfl) ?_
  refine DT.tv 3 rfl (Val.loadAtA see 2 rfl Tryz.underlying45 rfl sz45.h rfl) ?_
  refine DT.tk 4 ?_
  refine DT.tk 5 ?_
  refine DT.tv 6 rfl (Val.indexE h_p18 Tryz.underlying29 sz45.h rfl rfl) ?_
  refine DT.tv 7 rfl (Val.loadAtA see 0 rfl Tryz.underlying45 rfl sz45.h rfl) ?_
  refine DT.next (by kernel_rfl) ?_
  refine DA.one 8 rfl (by kernel_rfl) ?_
  refine SP.val (Val.neqA (by kernel_rfl) (fun w2 => eqA45 9998 w2 x16.Fuel x20.Fuel x16.Stack x20.Stack x16.Heap x20.Heap) rfl rfl) rfl rfl rfl (gg ?_)
  refine QE.atA ?_
  refine DA.done (by kernel_rfl) (gg ?_)
  refine cb ho (fun ho => ?_) fun ho => ?_
  ·exact fin ho hr ▸ rt
  exact lw ho hr (fun _ z => ⟨(IntKind.i64.wrap (x12 + 1)), z⟩)
 exact fin ho hr ▸ rt
def capstanlaw14_VerifyBack.j1 (m_0 : api_Module) (b_1 : List Int)  : Option Bool :=
  (verify_Load.f b_1).bind fun t38 => if t38.2.2 ≠ 0 then ((if (t38.2.1.length : Int) = 0 then ((capstanref08_Same.f t38.1 (⟨[], [], [], 0⟩ : api_Module)).bind fun t51 => some t51) else (some false)).bind fun t52 => some t52) else ((verify_Accept.f t38.1).bind fun t53 => (module_Bytes.f t38.1).bind fun t56 => (if ((decide (t53.2 = 0)) && (decide (t56.2 = 0))) = true then ((capstanref12_Same.f t53.1 t38.2.1).bind fun t63 => some t63) else (some false)).bind fun t64 => some (t64 && ((strOfNums t56.1).toList == (strOfNums b_1).toList)))
def capstanlaw14_VerifyBack.f (m_0 : api_Module) (b_1 : List Int) : Option Bool :=
  (capstanlaw14_awake.f ).bind fun t7 => if (!t7) = true then (some false) else ((capstanlaw08_Great.f m_0).bind fun t8 => if (t8 || (decide ((b_1.length : Int) > 3000))) = true then (some true) else ((verify_Accept.f m_0).bind fun t11 => if t11.2 = 0 then ((module_Bytes.f m_0).bind fun t14 => (verify_Load.f t14.1).bind fun t17 => (if ((decide (t14.2 ≠ 0)) || (decide (t17.2.2 ≠ 0))) = true then (some true) else ((capstanref08_Same.f t17.1 m_0).bind fun t32 => some (!t32))).bind fun t33 => (if t33 = true then (some true) else ((capstanref12_Same.f t17.2.1 t11.1).bind fun t36 => some (!t36))).bind fun t37 => if t37 = true then (some false) else (capstanlaw14_VerifyBack.j1 m_0 b_1)) else (capstanlaw14_VerifyBack.j1 m_0 b_1)))
theorem capstanlaw14_VerifyBack.ok (m_0 : api_Module) (b_1 : List Int) (v_m_0_Globals v_m_0_Pool v_m_0_Methods v_b_1 : Value)   (r : Bool) (H : capstanlaw14_VerifyBack.f m_0 b_1 = some r) (w : World) (hV : Hp) (sV : Sub hV (hp w)) (h0 : slR k_api_Value hV v_m_0_Globals m_0.Globals) (h1 : slR k_api_Value hV v_m_0_Pool m_0.Pool) (h2 : slR k_api_Method hV v_m_0_Methods m_0.Methods) (h3 : slR (kInt .u8) hV v_b_1 b_1) (h4 : (arrP (kInt .i64) 0 tab0).p hV) (h5 : (arrP k_arr199 1 tab1).p hV) :
    Trip Tryz.prog 3 [.agg #[v_m_0_Globals, v_m_0_Pool, v_m_0_Methods, .int .i64 m_0.Migrate], v_b_1].toArray em hV w (fun v => HO.pure (v = .bool r)) := by
 refine Trip.go 108 Tryz.func3 sV (aS h0 (aS h1 (aS h2 (aS h3 (All.cons (x := arrP (kInt .i64) 0 tab0) h4 (All.cons (x := arrP k_arr199 1 tab1) h5 (All.nil _))))))) fun see => ?_
 have ho := H
 refine gg ?_
 refine SP.box rfl rfl rfl rfl fun b5 => gg ?_
 obtain ⟨t7, hc, ho⟩ := bind_some (x := capstanlaw14_awake.f ) ho
 refine SP.callV see (caps := []) (.bool t7) fn4.h rfl rfl rfl rfl (fun w2 hP hs sub ap => capstanlaw14_awake.ok _ hc w2 hP sub (All.cons (ap.get 4 rfl) (All.cons (ap.get 5 rfl) (All.nil _)))) ?_
 clear hc
 refine gg ?_
 refine cb ho (fun ho => ?_) fun ho => ?_
 ·exact Option.some.inj ho ▸ rt
 refine kv capstanlaw08_Great.ok ho fun t8 ho => ?_
 refine SP.jn 4 [1, 2] 27 (.bool (t8 || (decide ((b_1.length : Int) > 3000)))) ?_ ?_
 ·refine gg ?_
  refine cb ho (fun ho => ?_) fun ho => ?_
  ·exact Option.some.inj ho ▸ rt
  refine k1 (h := fun _ _ => id) verify_Accept.ok ho fun t11 ho v12 => ?_
  refine go ?_
  refine oi r (fun z => z (capstanlaw14_VerifyBack.j1 m_0 b_1) [(1, v_b_1)] []) ?_ ?_ (hb := pe [slP (kInt .u8) v_b_1 b_1, arrP (kInt .i64) 0 tab0, arrP k_arr199 1 tab1])
  ·rintro _ _ ⟨ho, h⟩
   refine en h ?_
   obtain ⟨t38, hc, ho⟩ := bind_some ho
   refine SP.callK see (caps := []) _ fn8.h rfl rfl rfl rfl (fun w2 hP hs sub ap => verify_Load.ok _ hc w2 hP sub (aS (ap.get 0 rfl) (All.cons (ap.get 1 rfl) (All.cons (ap.get 2 rfl) (All.nil _))))) (fun vr => ?_)
   refine SP.ex (fun w2 h => St.open h) (fun v39 => ?_)
   refine SP.ex (fun w2 h => St.open h) (fun v40 => ?_)
   refine SP.ex (fun w2 h => St.open h) (fun v41 => ?_)
   refine SP.ex (fun w2 h => St.open h) (fun v42 => ?_)
   refine SP.have (fun w2 h => (St.pand h).1.symm) (fun er => ?_)
   subst er
   refine SP.imp (fun w2 h => St.seps (St.pand h).2) ?_
   clear hc
   refine gg ?_
   refine al fun b47 => ?_
   refine sh 1 fun hs_v39 => ?_
   refine sh 2 fun hs_v40 => ?_
   refine SP.have (fun w2 hw => slD.shape (St.own 3 rfl see.sub see.dj hw)) (fun hs_v41 => ?_)
   refine st 0 ?_
   refine ci ho (fun ho => ?_) fun ho => ?_
   ·obtain ⟨t52, hg_t52, ho⟩ := bind_some ho
    refine SP.jn 4 [] 79 (.bool t52) ?_ ?_
    ·clear hg_t52
     refine gg ?_
     exact Option.some.inj ho ▸ rt
    refine SP.ci 75 hg_t52 (fun hq50 ho => ?_) fun hq50 ho => ?_
    ·refine gg ?_
     refine bd [(.slice none 0 0), (.slice none 0 0), (.slice none 0 0), .int .i64 0] ?_
     obtain ⟨t51, hc, ho⟩ := bind_some ho
     refine SP.callVO see (caps := []) (.bool t51) fn9.h rfl rfl rfl rfl (fun w2 hs => capstanref08_Same.ok _ hc w2 (hp w2) (Sub.refl _) (aS (slO.read (St.own 1 rfl see.sub see.dj hs) (Sub.refl _) (Sub.refl _)) (aS (slO.read (St.own 2 rfl see.sub see.dj hs) (Sub.refl _) (Sub.refl _)) (aS (slD.read (St.own 3 rfl see.sub see.dj hs) (Sub.refl _) (Sub.refl _)) (aS (slP.nil _ _) (aS (slP.nil _ _) (aS (slP.nil _ _) (All.nil _)))))))) ?_
     clear hc
     refine gg ?_
     obtain rfl := Option.some.inj ho
     exact QE.jn fun w2 hw => hw
    refine gg ?_
    obtain rfl := Option.some.inj ho
    exact QE.jn fun w2 hw => hw
   obtain ⟨t53, hc, ho⟩ := bind_some ho
   refine SP.callKO see (caps := []) _ fn6.h rfl rfl rfl rfl (fun w2 hs => verify_Accept.ok _ hc w2 (hp w2) (Sub.refl _) (aS (slO.read (St.own 1 rfl see.sub see.dj hs) (Sub.refl _) (Sub.refl _)) (aS (slO.read (St.own 2 rfl see.sub see.dj hs) (Sub.refl _) (Sub.refl _)) (aS (slD.read (St.own 3 rfl see.sub see.dj hs) (Sub.refl _) (Sub.refl _)) (All.cons ((St.pers 2 rfl see.sub see.dj hs)) (All.nil _)))))) (fun v a a2 b ⟨v54, e, h⟩ => ⟨v54, e, (Sep.fcons (fun _ => slO.flip (fun _ _ _ _ h => h)) (fun _ => Sep.fnil)) h⟩) (SP.k1 fun v54 => ?_)
   clear hc
   refine gg ?_
   obtain ⟨t56, hc, ho⟩ := bind_some ho
   refine SP.callKO see (caps := []) _ fn7.h rfl rfl rfl rfl (fun w2 hs => module_Bytes.ok _ hc w2 (hp w2) (Sub.refl _) (aS (slO.read (St.own 2 rfl see.sub see.dj hs) (Sub.refl _) (Sub.refl _)) (aS (slO.read (St.own 3 rfl see.sub see.dj hs) (Sub.refl _) (Sub.refl _)) (aS (slD.read (St.own 4 rfl see.sub see.dj hs) (Sub.refl _) (Sub.refl _)) (All.cons ((St.pers 2 rfl see.sub see.dj hs)) (All.nil _)))))) (fun v a a2 b ⟨v57, e, h⟩ => ⟨v57, e, (Sep.fcons (fun _ => slO.flip (fun _ _ _ _ h => h)) (fun _ => Sep.fnil)) h⟩) (SP.k1 fun v57 => ?_)
   clear hc
   refine gg ?_
   refine SP.jn 3 [1, 13, 15, 17] 95 (.bool ((decide (t53.2 = 0)) && (decide (t56.2 = 0)))) ?_ ?_
   ·refine gg ?_
    obtain ⟨t64, hg_t64, ho⟩ := bind_some ho
    refine SP.jn 4 [1, 17] 100 (.bool t64) ?_ ?_
    ·clear hg_t64
     refine gg ?_
     refine SP.freezeS see 0 rfl ?_
     refine SP.jn 6 [] 107 (.bool (t64 && ((strOfNums t56.1).toList == (strOfNums b_1).toList))) ?_ ?_
     ·refine gg ?_
      exact Option.some.inj ho ▸ rt
     refine SP.bb 101 (fun hq68 => ?_) fun hq68 => ?_
     ·refine gg ?_
      refine SP.val (Val.convBS see 0 rfl Tryz.underlying26 Tryz.underlying5 Tryz.underlying9 rfl) rfl rfl rfl (gg ?_)
      refine SP.val (Val.convBS see 1 rfl Tryz.underlying26 Tryz.underlying5 Tryz.underlying9 rfl) rfl rfl rfl ?_
      refine SP.val (Val.eqlS rfl rfl) rfl rfl rfl (gg ?_)
      exact QE.jb (and_t hq68 rfl) fun w2 hw => hw
     refine gg ?_
     exact QE.jb (and_f hq68) fun w2 hw => hw
    refine SP.cb 96 hg_t64 (fun hq62 ho => ?_) fun hq62 ho => ?_
    ·refine gg ?_
     obtain ⟨t63, hc, ho⟩ := bind_some ho
     refine SP.callVO see (caps := []) (.bool t63) fn10.h rfl rfl rfl rfl (fun w2 hs => capstanref12_Same.ok _ hc w2 (hp w2) (Sub.refl _) (aS (slO.read (St.own 1 rfl see.sub see.dj hs) (Sub.refl _) (Sub.refl _)) (aS (slO.read (St.own 6 rfl see.sub see.dj hs) (Sub.refl _) (Sub.refl _)) (All.nil _)))) ?_
     clear hc
     refine gg ?_
     obtain rfl := Option.some.inj ho
     exact QE.jn fun w2 hw => hw
    refine gg ?_
    obtain rfl := Option.some.inj ho
    exact QE.jn fun w2 hw => hw
   refine SP.bb 92 (fun hq60 => ?_) fun hq60 => ?_
   ·refine gg ?_
    exact QE.jb (and_t hq60 rfl) fun w2 hw => hw
   refine gg ?_
   exact QE.jb (and_f hq60) fun w2 hw => hw
  refine gg ?_
  refine ci ho (fun ho => ?_) fun ho => ?_
  ·refine k1 module_Bytes.ok ho fun t14 ho v15 => ?_
   refine SP.freezeS see 0 rfl ?_
   obtain ⟨t17, hc, ho⟩ := bind_some ho
   refine SP.callK see (caps := []) _ fn8.h rfl rfl rfl rfl (fun w2 hP hs sub ap => verify_Load.ok _ hc w2 hP sub (aS (ap.get 0 rfl) (All.cons (ap.get 5 rfl) (All.cons (ap.get 6 rfl) (All.nil _))))) (fun vr => ?_)
   refine SP.ex (fun w2 h => St.open h) (fun v18 => ?_)
   refine SP.ex (fun w2 h => St.open h) (fun v19 => ?_)
   refine SP.ex (fun w2 h => St.open h) (fun v20 => ?_)
   refine SP.ex (fun w2 h => St.open h) (fun v21 => ?_)
   refine SP.have (fun w2 h => (St.pand h).1.symm) (fun er => ?_)
   subst er
   refine SP.imp (fun w2 h => St.seps (St.pand h).2) ?_
   clear hc
   refine gg ?_
   refine al fun b26 => ?_
   refine sh 1 fun hs_v18 => ?_
   refine sh 2 fun hs_v19 => ?_
   refine SP.have (fun w2 hw => slD.shape (St.own 3 rfl see.sub see.dj hw)) (fun hs_v20 => ?_)
   refine st 0 ?_
   refine SP.jn 3 [1, 2, 5, 9, 10] 51 (.bool ((decide (t14.2 ≠ 0)) || (decide (t17.2.2 ≠ 0)))) ?_ ?_
   ·refine gg ?_
    obtain ⟨t33, hg_t33, ho⟩ := bind_some ho
    refine SP.jn 5 [1, 5, 10] 57 (.bool t33) ?_ ?_
    ·clear hg_t33
     refine gg ?_
     obtain ⟨t37, hg_t37, ho⟩ := bind_some ho
     refine SP.jn 5 [1] 63 (.bool t37) ?_ ?_
     ·clear hg_t37
      refine gg ?_
      refine cb ho (fun ho => ?_) fun ho => ?_
      ·exact Option.some.inj ho ▸ rt
      exact mo ho (fun _ z => z) (sO [])
     refine SP.cb 58 hg_t37 (fun hq35 ho => ?_) fun hq35 ho => ?_
     ·refine gg ?_
      obtain rfl := Option.some.inj ho
      exact QE.jn fun w2 hw => hw
     refine gg ?_
     obtain ⟨t36, hc, ho⟩ := bind_some ho
     refine SP.callVO see (caps := []) (.bool t36) fn10.h rfl rfl rfl rfl (fun w2 hs => capstanref12_Same.ok _ hc w2 (hp w2) (Sub.refl _) (aS (slO.read (St.own 4 rfl see.sub see.dj hs) (Sub.refl _) (Sub.refl _)) (aS (slO.read (St.own 5 rfl see.sub see.dj hs) (Sub.refl _) (Sub.refl _)) (All.nil _)))) ?_
     clear hc
     refine gg ?_
     obtain rfl := Option.some.inj ho
     exact QE.jn fun w2 hw => hw
    refine SP.cb 52 hg_t33 (fun hq31 ho => ?_) fun hq31 ho => ?_
    ·refine gg ?_
     obtain rfl := Option.some.inj ho
     exact QE.jn fun w2 hw => hw
    refine gg ?_
    obtain ⟨t32, hc, ho⟩ := bind_some ho
    refine SP.callVO see (caps := []) (.bool t32) fn9.h rfl rfl rfl rfl (fun w2 hs => capstanref08_Same.ok _ hc w2 (hp w2) (Sub.refl _) (aS (slO.read (St.own 1 rfl see.sub see.dj hs) (Sub.refl _) (Sub.refl _)) (aS (slO.read (St.own 2 rfl see.sub see.dj hs) (Sub.refl _) (Sub.refl _)) (aS (slD.read (St.own 3 rfl see.sub see.dj hs) (Sub.refl _) (Sub.refl _)) (aS ((St.pers 1 rfl see.sub see.dj hs)) (aS ((St.pers 2 rfl see.sub see.dj hs)) (aS ((St.pers 3 rfl see.sub see.dj hs)) (All.nil _)))))))) ?_
    clear hc
    refine gg ?_
    obtain rfl := Option.some.inj ho
    exact QE.jn fun w2 hw => hw
   refine SP.bb 48 (fun hq29 => ?_) fun hq29 => ?_
   ·refine gg ?_
    exact QE.jb (or_t hq29) fun w2 hw => hw
   refine gg ?_
   exact QE.jb (or_f hq29 rfl) fun w2 hw => hw
  exact mo ho (fun _ z => z) (sO [])
 refine SP.bb 23 (fun hq10 => ?_) fun hq10 => ?_
 ·refine gg ?_
  exact QE.jb (or_t hq10) fun w2 hw => hw
 refine gg ?_
 exact QE.jb (or_f hq10 rfl) fun w2 hw => hw
theorem cl5 : Tryz.prog.cellsOf 5 = 1 := by kernel_rfl
theorem cl2 : Tryz.prog.cellsOf 2 = 1 := by kernel_rfl
theorem cl55 : Tryz.prog.cellsOf 55 = 3 := by kernel_rfl
def wf_api_Value (x : api_Value) : Prop := (Lit.int .u8 x.Kind).wf = true ∧ (Lit.int .i64 x.A).wf = true ∧ (Lit.int .i64 x.B).wf = true
theorem opens_api_Value : Opens Tryz.prog 55 k_api_Value wf_api_Value := by
  intro H enc W fuel cs d ps h
  cases fuel with
  | zero => simp [DataW.trod] at h
  | succ n =>
    obtain ⟨hl, hf⟩ := trod_struct Tryz.underlying55 h
    rw [cl55] at hl
    obtain ⟨c0, c1, c2, rfl⟩ := len3 hl
    obtain ⟨d0, q0, h0⟩ := hf 0 _ rfl
    replace h0 : DataW.trod enc Tryz.prog W 0 (fun _ => true) true n 5 (List.take (Tryz.prog.cellsOf 5) [c0, c1, c2]) = some (d0, q0) := h0
    rw [cl5] at h0
    replace h0 : DataW.trod enc Tryz.prog W 0 (fun _ => true) true n 5 [c0] = some (d0, q0) := h0
    obtain ⟨x0, r0, w0⟩ := (Opens.int Tryz.underlying5) enc W n _ _ _ h0
    obtain ⟨rfl, -⟩ := List.cons.inj r0
    obtain ⟨d1, q1, h1⟩ := hf 1 _ rfl
    replace h1 : DataW.trod enc Tryz.prog W 0 (fun _ => true) true n 2 (List.take (Tryz.prog.cellsOf 2) [c1, c2]) = some (d1, q1) := h1
    rw [cl2] at h1
    replace h1 : DataW.trod enc Tryz.prog W 0 (fun _ => true) true n 2 [c1] = some (d1, q1) := h1
    obtain ⟨x1, r1, w1⟩ := (Opens.int Tryz.underlying2) enc W n _ _ _ h1
    obtain ⟨rfl, -⟩ := List.cons.inj r1
    obtain ⟨d2, q2, h2⟩ := hf 2 _ rfl
    replace h2 : DataW.trod enc Tryz.prog W 0 (fun _ => true) true n 2 (List.take (Tryz.prog.cellsOf 2) [c2]) = some (d2, q2) := h2
    rw [cl2] at h2
    replace h2 : DataW.trod enc Tryz.prog W 0 (fun _ => true) true n 2 [c2] = some (d2, q2) := h2
    obtain ⟨x2, r2, w2⟩ := (Opens.int Tryz.underlying2) enc W n _ _ _ h2
    obtain ⟨rfl, -⟩ := List.cons.inj r2
    exact ⟨⟨x0, x1, x2⟩, rfl, w0, w1, w2⟩
theorem cl3 : Tryz.prog.cellsOf 3 = 1 := by kernel_rfl
theorem cl57 : Tryz.prog.cellsOf 57 = 3 := by kernel_rfl
def wf_api_Instr (x : api_Instr) : Prop := (Lit.int .u8 x.Op).wf = true ∧ (Lit.int .i64 x.A).wf = true ∧ (Lit.int .i64 x.B).wf = true
theorem opens_api_Instr : Opens Tryz.prog 57 k_api_Instr wf_api_Instr := by
  intro H enc W fuel cs d ps h
  cases fuel with
  | zero => simp [DataW.trod] at h
  | succ n =>
    obtain ⟨hl, hf⟩ := trod_struct Tryz.underlying57 h
    rw [cl57] at hl
    obtain ⟨c0, c1, c2, rfl⟩ := len3 hl
    obtain ⟨d0, q0, h0⟩ := hf 0 _ rfl
    replace h0 : DataW.trod enc Tryz.prog W 0 (fun _ => true) true n 5 (List.take (Tryz.prog.cellsOf 5) [c0, c1, c2]) = some (d0, q0) := h0
    rw [cl5] at h0
    replace h0 : DataW.trod enc Tryz.prog W 0 (fun _ => true) true n 5 [c0] = some (d0, q0) := h0
    obtain ⟨x0, r0, w0⟩ := (Opens.int Tryz.underlying5) enc W n _ _ _ h0
    obtain ⟨rfl, -⟩ := List.cons.inj r0
    obtain ⟨d1, q1, h1⟩ := hf 1 _ rfl
    replace h1 : DataW.trod enc Tryz.prog W 0 (fun _ => true) true n 3 (List.take (Tryz.prog.cellsOf 3) [c1, c2]) = some (d1, q1) := h1
    rw [cl3] at h1
    replace h1 : DataW.trod enc Tryz.prog W 0 (fun _ => true) true n 3 [c1] = some (d1, q1) := h1
    obtain ⟨x1, r1, w1⟩ := (Opens.int Tryz.underlying3) enc W n _ _ _ h1
    obtain ⟨rfl, -⟩ := List.cons.inj r1
    obtain ⟨d2, q2, h2⟩ := hf 2 _ rfl
    replace h2 : DataW.trod enc Tryz.prog W 0 (fun _ => true) true n 3 (List.take (Tryz.prog.cellsOf 3) [c2]) = some (d2, q2) := h2
    rw [cl3] at h2
    replace h2 : DataW.trod enc Tryz.prog W 0 (fun _ => true) true n 3 [c2] = some (d2, q2) := h2
    obtain ⟨x2, r2, w2⟩ := (Opens.int Tryz.underlying3) enc W n _ _ _ h2
    obtain ⟨rfl, -⟩ := List.cons.inj r2
    exact ⟨⟨x0, x1, x2⟩, rfl, w0, w1, w2⟩
theorem cl26 : Tryz.prog.cellsOf 26 = 1 := by kernel_rfl
theorem cl4 : Tryz.prog.cellsOf 4 = 1 := by kernel_rfl
theorem cl41 : Tryz.prog.cellsOf 41 = 1 := by kernel_rfl
theorem cl43 : Tryz.prog.cellsOf 43 = 8 := by kernel_rfl
def wf_api_Method (x : api_Method) : Prop := (x.Args.length ≤ maxLen ∧ ∀ y ∈ x.Args, (Lit.int .u8 y).wf = true) ∧ (x.Locals.length ≤ maxLen ∧ ∀ y ∈ x.Locals, (Lit.int .u8 y).wf = true) ∧ (Lit.int .u8 x.Result).wf = true ∧ True ∧ (Lit.int .i64 x.Fuel).wf = true ∧ (Lit.int .i64 x.Stack).wf = true ∧ (Lit.int .i64 x.Heap).wf = true ∧ (x.Code.length ≤ maxLen ∧ ∀ y ∈ x.Code, wf_api_Instr y)
theorem opens_api_Method : Opens Tryz.prog 43 k_api_Method wf_api_Method := by
  intro H enc W fuel cs d ps h
  cases fuel with
  | zero => simp [DataW.trod] at h
  | succ n =>
    obtain ⟨hl, hf⟩ := trod_struct Tryz.underlying43 h
    rw [cl43] at hl
    obtain ⟨c0, c1, c2, c3, c4, c5, c6, c7, rfl⟩ := len8 hl
    obtain ⟨d0, q0, h0⟩ := hf 0 _ rfl
    replace h0 : DataW.trod enc Tryz.prog W 0 (fun _ => true) true n 26 (List.take (Tryz.prog.cellsOf 26) [c0, c1, c2, c3, c4, c5, c6, c7]) = some (d0, q0) := h0
    rw [cl26] at h0
    replace h0 : DataW.trod enc Tryz.prog W 0 (fun _ => true) true n 26 [c0] = some (d0, q0) := h0
    obtain ⟨x0, r0, w0⟩ := (Opens.slice Tryz.underlying26 (Opens.int Tryz.underlying5) cl5 (by decide)) enc W n _ _ _ h0
    obtain ⟨v0, e0, r0⟩ := r0
    obtain ⟨rfl, -⟩ := List.cons.inj e0
    obtain ⟨d1, q1, h1⟩ := hf 1 _ rfl
    replace h1 : DataW.trod enc Tryz.prog W 0 (fun _ => true) true n 26 (List.take (Tryz.prog.cellsOf 26) [c1, c2, c3, c4, c5, c6, c7]) = some (d1, q1) := h1
    rw [cl26] at h1
    replace h1 : DataW.trod enc Tryz.prog W 0 (fun _ => true) true n 26 [c1] = some (d1, q1) := h1
    obtain ⟨x1, r1, w1⟩ := (Opens.slice Tryz.underlying26 (Opens.int Tryz.underlying5) cl5 (by decide)) enc W n _ _ _ h1
    obtain ⟨v1, e1, r1⟩ := r1
    obtain ⟨rfl, -⟩ := List.cons.inj e1
    obtain ⟨d2, q2, h2⟩ := hf 2 _ rfl
    replace h2 : DataW.trod enc Tryz.prog W 0 (fun _ => true) true n 5 (List.take (Tryz.prog.cellsOf 5) [c2, c3, c4, c5, c6, c7]) = some (d2, q2) := h2
    rw [cl5] at h2
    replace h2 : DataW.trod enc Tryz.prog W 0 (fun _ => true) true n 5 [c2] = some (d2, q2) := h2
    obtain ⟨x2, r2, w2⟩ := (Opens.int Tryz.underlying5) enc W n _ _ _ h2
    obtain ⟨rfl, -⟩ := List.cons.inj r2
    obtain ⟨d3, q3, h3⟩ := hf 3 _ rfl
    replace h3 : DataW.trod enc Tryz.prog W 0 (fun _ => true) true n 4 (List.take (Tryz.prog.cellsOf 4) [c3, c4, c5, c6, c7]) = some (d3, q3) := h3
    rw [cl4] at h3
    replace h3 : DataW.trod enc Tryz.prog W 0 (fun _ => true) true n 4 [c3] = some (d3, q3) := h3
    obtain ⟨x3, r3, w3⟩ := (Opens.bool Tryz.underlying4) enc W n _ _ _ h3
    obtain ⟨rfl, -⟩ := List.cons.inj r3
    obtain ⟨d4, q4, h4⟩ := hf 4 _ rfl
    replace h4 : DataW.trod enc Tryz.prog W 0 (fun _ => true) true n 3 (List.take (Tryz.prog.cellsOf 3) [c4, c5, c6, c7]) = some (d4, q4) := h4
    rw [cl3] at h4
    replace h4 : DataW.trod enc Tryz.prog W 0 (fun _ => true) true n 3 [c4] = some (d4, q4) := h4
    obtain ⟨x4, r4, w4⟩ := (Opens.int Tryz.underlying3) enc W n _ _ _ h4
    obtain ⟨rfl, -⟩ := List.cons.inj r4
    obtain ⟨d5, q5, h5⟩ := hf 5 _ rfl
    replace h5 : DataW.trod enc Tryz.prog W 0 (fun _ => true) true n 3 (List.take (Tryz.prog.cellsOf 3) [c5, c6, c7]) = some (d5, q5) := h5
    rw [cl3] at h5
    replace h5 : DataW.trod enc Tryz.prog W 0 (fun _ => true) true n 3 [c5] = some (d5, q5) := h5
    obtain ⟨x5, r5, w5⟩ := (Opens.int Tryz.underlying3) enc W n _ _ _ h5
    obtain ⟨rfl, -⟩ := List.cons.inj r5
    obtain ⟨d6, q6, h6⟩ := hf 6 _ rfl
    replace h6 : DataW.trod enc Tryz.prog W 0 (fun _ => true) true n 3 (List.take (Tryz.prog.cellsOf 3) [c6, c7]) = some (d6, q6) := h6
    rw [cl3] at h6
    replace h6 : DataW.trod enc Tryz.prog W 0 (fun _ => true) true n 3 [c6] = some (d6, q6) := h6
    obtain ⟨x6, r6, w6⟩ := (Opens.int Tryz.underlying3) enc W n _ _ _ h6
    obtain ⟨rfl, -⟩ := List.cons.inj r6
    obtain ⟨d7, q7, h7⟩ := hf 7 _ rfl
    replace h7 : DataW.trod enc Tryz.prog W 0 (fun _ => true) true n 41 (List.take (Tryz.prog.cellsOf 41) [c7]) = some (d7, q7) := h7
    rw [cl41] at h7
    replace h7 : DataW.trod enc Tryz.prog W 0 (fun _ => true) true n 41 [c7] = some (d7, q7) := h7
    obtain ⟨x7, r7, w7⟩ := (Opens.slice Tryz.underlying41 opens_api_Instr cl57 (by decide)) enc W n _ _ _ h7
    obtain ⟨v7, e7, r7⟩ := r7
    obtain ⟨rfl, -⟩ := List.cons.inj e7
    exact ⟨⟨x0, x1, x2, x3, x4, x5, x6, x7⟩, ⟨_, _, _, rfl, r0, r1, r7⟩, w0, w1, w2, w3, w4, w5, w6, w7⟩
theorem cl22 : Tryz.prog.cellsOf 22 = 1 := by kernel_rfl
theorem cl23 : Tryz.prog.cellsOf 23 = 1 := by kernel_rfl
theorem cl25 : Tryz.prog.cellsOf 25 = 4 := by kernel_rfl
def wf_api_Module (x : api_Module) : Prop := (x.Globals.length ≤ maxLen ∧ ∀ y ∈ x.Globals, wf_api_Value y) ∧ (x.Pool.length ≤ maxLen ∧ ∀ y ∈ x.Pool, wf_api_Value y) ∧ (x.Methods.length ≤ maxLen ∧ ∀ y ∈ x.Methods, wf_api_Method y) ∧ (Lit.int .i64 x.Migrate).wf = true
theorem opens_api_Module : Opens Tryz.prog 25 k_api_Module wf_api_Module := by
  intro H enc W fuel cs d ps h
  cases fuel with
  | zero => simp [DataW.trod] at h
  | succ n =>
    obtain ⟨hl, hf⟩ := trod_struct Tryz.underlying25 h
    rw [cl25] at hl
    obtain ⟨c0, c1, c2, c3, rfl⟩ := len4 hl
    obtain ⟨d0, q0, h0⟩ := hf 0 _ rfl
    replace h0 : DataW.trod enc Tryz.prog W 0 (fun _ => true) true n 22 (List.take (Tryz.prog.cellsOf 22) [c0, c1, c2, c3]) = some (d0, q0) := h0
    rw [cl22] at h0
    replace h0 : DataW.trod enc Tryz.prog W 0 (fun _ => true) true n 22 [c0] = some (d0, q0) := h0
    obtain ⟨x0, r0, w0⟩ := (Opens.slice Tryz.underlying22 opens_api_Value cl55 (by decide)) enc W n _ _ _ h0
    obtain ⟨v0, e0, r0⟩ := r0
    obtain ⟨rfl, -⟩ := List.cons.inj e0
    obtain ⟨d1, q1, h1⟩ := hf 1 _ rfl
    replace h1 : DataW.trod enc Tryz.prog W 0 (fun _ => true) true n 22 (List.take (Tryz.prog.cellsOf 22) [c1, c2, c3]) = some (d1, q1) := h1
    rw [cl22] at h1
    replace h1 : DataW.trod enc Tryz.prog W 0 (fun _ => true) true n 22 [c1] = some (d1, q1) := h1
    obtain ⟨x1, r1, w1⟩ := (Opens.slice Tryz.underlying22 opens_api_Value cl55 (by decide)) enc W n _ _ _ h1
    obtain ⟨v1, e1, r1⟩ := r1
    obtain ⟨rfl, -⟩ := List.cons.inj e1
    obtain ⟨d2, q2, h2⟩ := hf 2 _ rfl
    replace h2 : DataW.trod enc Tryz.prog W 0 (fun _ => true) true n 23 (List.take (Tryz.prog.cellsOf 23) [c2, c3]) = some (d2, q2) := h2
    rw [cl23] at h2
    replace h2 : DataW.trod enc Tryz.prog W 0 (fun _ => true) true n 23 [c2] = some (d2, q2) := h2
    obtain ⟨x2, r2, w2⟩ := (Opens.slice Tryz.underlying23 opens_api_Method cl43 (by decide)) enc W n _ _ _ h2
    obtain ⟨v2, e2, r2⟩ := r2
    obtain ⟨rfl, -⟩ := List.cons.inj e2
    obtain ⟨d3, q3, h3⟩ := hf 3 _ rfl
    replace h3 : DataW.trod enc Tryz.prog W 0 (fun _ => true) true n 3 (List.take (Tryz.prog.cellsOf 3) [c3]) = some (d3, q3) := h3
    rw [cl3] at h3
    replace h3 : DataW.trod enc Tryz.prog W 0 (fun _ => true) true n 3 [c3] = some (d3, q3) := h3
    obtain ⟨x3, r3, w3⟩ := (Opens.int Tryz.underlying3) enc W n _ _ _ h3
    obtain ⟨rfl, -⟩ := List.cons.inj r3
    exact ⟨⟨x0, x1, x2, x3⟩, ⟨_, _, _, rfl, r0, r1, r2⟩, w0, w1, w2, w3⟩
def capstanlaw14_VerifyBack.Pure : Prop := ∀ (x0 : api_Module) (x1 : (List Int)), wf_api_Module x0 → (x1.length ≤ maxLen ∧ ∀ y ∈ x1, (Lit.int .u8 y).wf = true) → capstanlaw14_VerifyBack.f x0 x1 = some true
end Go.Proofs.YtikichjmjbbnbaaGreatDoor
end
