/- Functions of the program as plain functions, with the proof that the code computes them: printed by gen.py of this session. -/
import Derived.Test.YtehjiiebjkkcmaaGreatDoorProg
import Derived.Test.YtehjiiebjkkcmaaGreatDoorQ33xVerifyTells
import Derived.Test.YtehjiiebjkkcmaaGreatDoorQ42xVerifyTells
import Derived.Ground.GgzProg
import Derived.Ground.Names8Prog
import Derived.Ground.NamesProg
import Derived.Ground.SlgcProg
import Derived.Ground.SlgmProg
import Derived.Ground.SlgnProg
import Derived.Ground.SlsfProg
import Derived.Shelf.Bits.Mul64
import Derived.Shelf.Lay
import Derived.Shelf.SlGeneric
import Derived.Shelf.SlIterI.Nil
import Derived.Shelf.SlSortCmp.WholeK
import Derived.Shelf.SlicesE.Reverse
import Derived.Shelf.SlicesG.Cmp
import Derived.Shelf.SlicesG.CompactI
import Derived.Shelf.Small.Bits
import Derived.Shelf.SortM.Plain
import Derived.Shelf.SortM.SortNone
import Derived.Shelf.Spec.SlicesGrow
import Derived.Test.YtehjiiebjkkcmaaGreatDoorGVerifyTellsp2
set_option linter.unusedVariables false
set_option linter.unusedSimpArgs false
set_option maxRecDepth 20000
set_option maxHeartbeats 2000000
set_option linter.defProp false
set_option warn.classDefReducibility false
noncomputable section
namespace Go.Proofs.YtehjiiebjkkcmaaGreatDoor
open Go.Q
attribute [local irreducible] CP SP QE DA DT Val St
def ZE.j1 (YS YT : List Zn) (YR : List Zb) (Yc : Int) (X0 Yy : List Int) (ZU : Int) (ZX : Bool) (ZY Y0 Y1 : Int) (Yr : List Z7) (Yv : List Int) (l22 : List Ze) (i_1 : Z7) (Xo : List Int) (l5302 : List Ze) (l5304 l5307 : List Int) : Option (XF × (List Ze)) :=
  some ((⟨l5304, l5307⟩ : XF), l5302)
def ZE.j2 (YS YT : List Zn) (YR : List Zb) (Yc : Int) (X0 Yy : List Int) (ZU : Int) (ZX : Bool) (ZY Y0 Y1 : Int) (Yr : List Z7) (Yv : List Int) (l22 : List Ze) (i_1 : Z7) (Xo : List Int) (t28 : XF × Bool) (l5300 : List Int) : Option (XF × (List Ze)) :=
  ZE.j1 YS YT YR Yc X0 Yy ZU ZX ZY Y0 Y1 Yr Yv l22 i_1 Xo l22 [0] l5300
def ZE.j4 (YS YT : List Zn) (YR : List Zb) (Yc : Int) (X0 Yy : List Int) (ZU : Int) (ZX : Bool) (ZY Y0 Y1 : Int) (Yr : List Z7) (Yv : List Int) (l22 : List Ze) (i_1 : Z7) (Xo : List Int) (t28 : XF × Bool) (t37 : List Int) (b46 : Bool) : Option (XF × (List Ze)) :=
  if b46 = true then ((Xn.f YS YT YR Yc X0 Yy ZU ZX ZY Y0 Y1 Yr Yv l22 i_1).bind fun t47 => ZE.j1 YS YT YR Yc X0 Yy ZU ZX ZY Y0 Y1 Yr Yv l22 i_1 Xo t47.2 [t47.1] t28.1.Gives) else (if i_1.Op = 30 then ((elt YR i_1.A).bind fun x52 => (elt YR i_1.A).bind fun x60 => ZE.j1 YS YT YR Yc X0 Yy ZU ZX ZY Y0 Y1 Yr Yv l22 i_1 Xo l22 x52.Args [x60.Result]) else (if i_1.Op = 31 then (ZE.j1 YS YT YR Yc X0 Yy ZU ZX ZY Y0 Y1 Yr Yv l22 i_1 Xo l22 [ZU] t28.1.Gives) else (if i_1.Op = 8 then (if t37.length < 4611686018427387904 then (if ([0].length + [0].length) * 1 ≤ 140737488355328 then (ZE.j1 YS YT YR Yc X0 Yy ZU ZX ZY Y0 Y1 Yr Yv l22 i_1 Xo l22 ([0] ++ [0]) t37.reverse) else none) else none) else (if i_1.Op = 7 then (if (t37.length : Int) > 0 then (if (0 : Int) ≤ (IntKind.i64.wrap ((t37.length : Int) - 1)) ∧ (IntKind.i64.wrap ((t37.length : Int) - 1)) ≤ (t37.length : Int) then ((ZF.f (t37.drop (IntKind.i64.wrap ((t37.length : Int) - 1) : Int).toNat) 2).bind fun t5296 => ZE.j2 YS YT YR Yc X0 Yy ZU ZX ZY Y0 Y1 Yr Yv l22 i_1 Xo t28 t5296) else none) else (ZE.j2 YS YT YR Yc X0 Yy ZU ZX ZY Y0 Y1 Yr Yv l22 i_1 Xo t28 t28.1.Gives)) else (ZE.j2 YS YT YR Yc X0 Yy ZU ZX ZY Y0 Y1 Yr Yv l22 i_1 Xo t28 t28.1.Gives)))))
def ZE.j3 (YS YT : List Zn) (YR : List Zb) (Yc : Int) (X0 Yy : List Int) (ZU : Int) (ZX : Bool) (ZY Y0 Y1 : Int) (Yr : List Z7) (Yv : List Int) (l22 : List Ze) (i_1 : Z7) (Xo : List Int) (t28 : XF × Bool) (t37 : List Int) (b42 : Bool) : Option (XF × (List Ze)) :=
  if b42 = true then ((Xn.f YS YT YR Yc X0 Yy ZU ZX ZY Y0 Y1 Yr Yv l22 i_1).bind fun t43 => ZE.j1 YS YT YR Yc X0 Yy ZU ZX ZY Y0 Y1 Yr Yv l22 i_1 Xo t43.2 t28.1.Takes [t43.1]) else (if i_1.Op = 3 then (ZE.j4 YS YT YR Yc X0 Yy ZU ZX ZY Y0 Y1 Yr Yv l22 i_1 Xo t28 t37 (decide (i_1.Op = 3))) else (ZE.j4 YS YT YR Yc X0 Yy ZU ZX ZY Y0 Y1 Yr Yv l22 i_1 Xo t28 t37 (decide (i_1.Op = 5))))
def ZE.f (YS YT : List Zn) (YR : List Zb) (Yc : Int) (X0 Yy : List Int) (ZU : Int) (ZX : Bool) (ZY Y0 Y1 : Int) (Yr : List Z7) (Yv : List Int) (l22 : List Ze) (i_1 : Z7) (Xo : List Int) : Option (XF × (List Ze)) :=
  (Xe.f i_1.Op).bind fun t28 => if t28.2 = true then (some (t28.1, l22)) else (if (0 : Int) ≤ (if (IntKind.i64.wrap ((Xo.length : Int) - 2)) > 0 then IntKind.i64.wrap ((Xo.length : Int) - 2) else 0) ∧ (if (IntKind.i64.wrap ((Xo.length : Int) - 2)) > 0 then IntKind.i64.wrap ((Xo.length : Int) - 2) else 0) ≤ (Xo.length : Int) then ((XG.f (Xo.drop (if (IntKind.i64.wrap ((Xo.length : Int) - 2)) > 0 then IntKind.i64.wrap ((Xo.length : Int) - 2) else 0 : Int).toNat)).bind fun t37 => if i_1.Op = 1 then (ZE.j3 YS YT YR Yc X0 Yy ZU ZX ZY Y0 Y1 Yr Yv l22 i_1 Xo t28 t37 (decide (i_1.Op = 1))) else (if i_1.Op = 2 then (ZE.j3 YS YT YR Yc X0 Yy ZU ZX ZY Y0 Y1 Yr Yv l22 i_1 Xo t28 t37 (decide (i_1.Op = 2))) else (ZE.j3 YS YT YR Yc X0 Yy ZU ZX ZY Y0 Y1 Yr Yv l22 i_1 Xo t28 t37 (decide (i_1.Op = 4))))) else none)
theorem ZE.ok (YS YT : List Zn) (YR : List Zb) (Yc : Int) (X0 Yy : List Int) (ZU : Int) (ZX : Bool) (ZY Y0 Y1 : Int) (Yr : List Z7) (Yv : List Int) (l22 : List Ze) (i_1 : Z7) (Xo : List Int) (X8 X9 Xa Xb YI YJ YK KE : Value) (r : XF × (List Ze)) (H : ZE.f YS YT YR Yc X0 Yy ZU ZX ZY Y0 Y1 Yr Yv l22 i_1 Xo = some r) (w : World) (hV : Hp) (sV : Sub hV (hp w)) (h0 : slR Z5 hV X8 YS) (h1 : slR Z5 hV X9 YT) (h2 : slR Z8 hV Xa YR) (h3 : slR (kInt .u8) hV Xb X0) (h4 : slR (kInt .u8) hV YI Yy) (h5 : slR Za hV YJ Yr) (h6 : slR (kInt .u8) hV YK Yv) (h7 : slR (kInt .u8) hV KE Xo) (b1 : Nat) (hA : Hp) (sA : Sub hA (hp w)) (dA : Dj hV hA) (hI : (arrK ZC b1 [X8, X9, Xa, .int .i64 Yc, Xb, YI, .int .u8 ZU, .bool ZX, .int .i64 ZY, .int .i64 Y0, .int .i64 Y1, YJ, YK] 200 l22 [] 122).p hV hA) :
    Trip Tryz.prog 199 [.pointer (some ⟨b1, 0, none⟩), .agg #[.int .u8 i_1.Op, .int .i64 i_1.A, .int .i64 i_1.B], KE].toArray hA hV w (fun v => HO.ex fun u0 : Value => HO.ex fun u1 : Value => HO.pand (v = .agg #[u0, u1]) (HO.seps [HO.ofP (slP (kInt .u8) u0 r.1.Takes), slO (kInt .u8) 5 u1 r.1.Gives, arrK ZC b1 [X8, X9, Xa, .int .i64 Yc, Xb, YI, .int .u8 ZU, .bool ZX, .int .i64 ZY, .int .i64 Y0, .int .i64 Y1, YJ, YK] 200 r.2 [] 122])) := by
 have see : Sees w hA hV := ⟨sV, dA⟩
 refine Trip.of (P := Tryz.prog) (n := ⟨106, []⟩) Tryz.func199 rfl ⟨rfl, rfl⟩ rfl (St.beginA (os := [arrK ZC b1 [X8, X9, Xa, .int .i64 Yc, Xb, YI, .int .u8 ZU, .bool ZX, .int .i64 ZY, .int .i64 Y0, .int .i64 Y1, YJ, YK] 200 l22 [] 122]) sA (aS h0 (aS h1 (aS h2 (aS h3 (aS h4 (aS h5 (aS h6 (aS h7 (All.nil _))))))))) ⟨hA, em, Dj.XR _, Sub.refl _, Sub.em _, hI, trivial⟩) ?_
 have ho := H
 refine gg ?_
 refine bx fun b24 => ?_
 refine al fun b26 => ?_
 refine k2 Xe.ok ho fun t28 ho v29 v30 => ?_
 refine al (h := fun _ => id) fun b33 => ?_
 refine sh (h := id) 1 fun Z5S => ?_
 refine sh 2 fun Z9g => ?_
 refine st 0 ?_
 refine cb ho (fun ho => ?_) fun ho => ?_
 ·refine sh (h := id) 1 fun Z5S => ?_
  refine sh 2 fun Z9g => ?_
  refine st 3 ?_
  exact Option.some.inj ho ▸ rt (fun _ h => St.selO [1, 4] rfl rfl (St.W9 h 1 rfl see)) (rs := [.cell 6 255]) (vs := [.agg #[v29, v30]]) (hv := ⟨RVs.cellA 3 rfl rfl Tryz.underlying255 rfl sz255.h, trivial⟩) (hk := fun a b p s => ⟨_, _, rfl, ⟨em, _, Dj.Yw _, Sub.em _, Sub.refl _, p.get 0 rfl, s⟩⟩)
 refine SP.val (Val.max2 rfl rfl) rfl rfl rfl ?_
 obtain ⟨hz, ho⟩ := X6 ho
 refine SP.Z1A see 7 rfl Tryz.underlying31 sz5.h rfl rfl hz rfl rfl (fun v35 => ?_)
 clear hz
 refine k1 XG.ok ho fun t37 ho v38 => ?_
 refine li (h := fun _ => id) (kInt .u8) [0] fun v40 => ?_
 refine go ?_
 refine CP.join (fun a w2 => ∃ l5302 : List Ze, ∃ l5304 : List Int, ∃ l5307 : List Int, ∃ v5305 : Value, ∃ v5308 : Value, ZE.j1 YS YT YR Yc X0 Yy ZU ZX ZY Y0 Y1 Yr Yv l22 i_1 Xo l5302 l5304 l5307 = some r ∧ Env ⟨106, []⟩ [(6, .pointer (some ⟨b26, 0, none⟩)), (7, .pointer (some ⟨b33, 0, none⟩))] a ∧ St w hA hV [slP (kInt .u8) v5305 l5304, slP Z5 X8 YS, slP Z5 X9 YT, slP Z8 Xa YR, slP (kInt .u8) Xb X0, slP (kInt .u8) YI Yy, slP Za YJ Yr, slP (kInt .u8) YK Yv] [slO (kInt .u8) 5 v5308 l5307, arrK ZC b1 [X8, X9, Xa, .int .i64 Yc, Xb, YI, .int .u8 ZU, .bool ZX, .int .i64 ZY, .int .i64 Y0, .int .i64 Y1, YJ, YK] 200 l5302 [] 122, boxO b33 [v5305, v5308] 255, boxO b26 [(.slice none 0 0), (.slice none 0 0)] 255] w2) ?_ ?_
 ·rintro a w2 ⟨l5302, l5304, l5307, v5305, v5308, ho, ha, hw⟩
  refine CP.app ha hw ?_
  clear ha hw a w2
  refine gg ?_
  refine sp (h := id) 0 fun Zaj => ?_
  refine sh 0 fun Zak => ?_
  refine st 3 ?_
  exact Option.some.inj ho ▸ rt (sO [0, 1]) (rs := [.cell 6 255]) (vs := [.agg #[v5305, v5308]]) (hv := ⟨RVs.cellA 3 rfl rfl Tryz.underlying255 rfl sz255.h, trivial⟩) (hk := fun a b p s => ⟨_, _, rfl, ⟨em, _, Dj.Yw _, Sub.em _, Sub.refl _, p.get 0 rfl, s⟩⟩)
 refine go ?_
 refine CP.join (fun a w2 => ∃ l5300 : List Int, ∃ v5301 : Value, ZE.j2 YS YT YR Yc X0 Yy ZU ZX ZY Y0 Y1 Yr Yv l22 i_1 Xo t28 l5300 = some r ∧ Env ⟨106, []⟩ [(6, .pointer (some ⟨b26, 0, none⟩)), (7, .pointer (some ⟨b33, 0, none⟩)), (10, v40)] a ∧ St w hA hV [slP Z5 X8 YS, slP Z5 X9 YT, slP Z8 Xa YR, slP (kInt .u8) Xb X0, slP (kInt .u8) YI Yy, slP Za YJ Yr, slP (kInt .u8) YK Yv] [slO (kInt .u8) 5 v5301 l5300, slO (kInt .u8) 5 v40 [0], boxO b33 [v29, v5301] 255, slO (kInt .u8) 5 v29 t28.1.Takes, boxO b26 [(.slice none 0 0), (.slice none 0 0)] 255, arrK ZC b1 [X8, X9, Xa, .int .i64 Yc, Xb, YI, .int .u8 ZU, .bool ZX, .int .i64 ZY, .int .i64 Y0, .int .i64 Y1, YJ, YK] 200 l22 [] 122] w2) ?_ ?_
 ·rintro a w2 ⟨l5300, v5301, ho, ha, hw⟩
  refine CP.app ha hw ?_
  clear ha hw a w2
  refine gg ?_
  refine sh 1 fun ZaI => ?_
  refine st 2 ?_
  exact QE.meet fun a w2 ha hw => ⟨l22, [0], l5300, v40, v5301, ho, ha.sub sb, (St.selO [0, 4, 1, 3] rfl rfl (St.W9 hw 1 rfl see))⟩
 refine go ?_
 refine CP.seq ?_
 refine go ?_
 refine CP.seq ?_
 refine go ?_
 refine CP.seq ?_
 refine go ?_
 refine CP.seq ?_
 refine go ?_
 refine CP.seq ?_
 refine go ?_
 refine CP.seq ?_
 refine go ?_
 refine CP.seq ?_
 refine CP.seq ?_
 refine CP.join (fun a w2 => ∃ b42 : Bool, ZE.j3 YS YT YR Yc X0 Yy ZU ZX ZY Y0 Y1 Yr Yv l22 i_1 Xo t28 t37 b42 = some r ∧ Env ⟨106, []⟩ [(0, .pointer (some ⟨b1, 0, none⟩)), (4, .pointer (some ⟨b24, 0, none⟩)), (6, .pointer (some ⟨b26, 0, none⟩)), (7, .pointer (some ⟨b33, 0, none⟩)), (9, v38), (10, v40), (28, .int .u8 i_1.Op), (29, .bool b42)] a ∧ St w hA hV [slP Z5 X8 YS, slP Z5 X9 YT, slP Z8 Xa YR, slP (kInt .u8) Xb X0, slP (kInt .u8) YI Yy, slP Za YJ Yr, slP (kInt .u8) YK Yv] [slO (kInt .u8) 5 v40 [0], slO (kInt .u8) 5 v38 t37, boxO b33 [v29, v30] 255, slO (kInt .u8) 5 v29 t28.1.Takes, slO (kInt .u8) 5 v30 t28.1.Gives, boxO b26 [(.slice none 0 0), (.slice none 0 0)] 255, boxO b24 [.int .u8 i_1.Op, .int .i64 i_1.A, .int .i64 i_1.B] 43, arrK ZC b1 [X8, X9, Xa, .int .i64 Yc, Xb, YI, .int .u8 ZU, .bool ZX, .int .i64 ZY, .int .i64 Y0, .int .i64 Y1, YJ, YK] 200 l22 [] 122] w2) ?_ ?_
 ·rintro a w2 ⟨b42, ho, ha, hw⟩
  refine CP.app ha hw ?_
  clear ha hw a w2
  refine cb (hf := id) ho (fun ho => ?_) fun ho => ?_
  ·refine so [7, 0, 1, 2, 3, 4, 5, 6] ?_
   obtain ⟨t43, hc, ho⟩ := bind_some ho
   refine SP.callA see (caps := []) _ fn240.h rfl rfl rfl rfl (fun w2 hP h1 sub s1 d1 ap hI => Xn.ok _ _ _ _ _ _ _ _ _ _ _ _ _ _ _ _ _ _ _ _ _ _ _ hc w2 hP sub (ap.get 0 rfl) (ap.get 1 rfl) (ap.get 2 rfl) (ap.get 3 rfl) (ap.get 4 rfl) (ap.get 5 rfl) (ap.get 6 rfl) _ h1 s1 d1 hI) (SP.k0 ?_)
   clear hc
   refine li (kInt .u8) [t43.1] fun v44 => ?_
   refine sh 0 fun ZaJ => ?_
   refine st 4 ?_
   exact QE.meet fun a w2 ha hw => ⟨t43.2, t28.1.Takes, [t43.1], v29, v44, ho, ha.sub sb, (St.selO [0, 1, 4, 6] rfl rfl (St.W9 hw 5 rfl see))⟩
  refine go ?_
  refine CP.seq ?_
  refine CP.join (fun a w2 => ∃ b46 : Bool, ZE.j4 YS YT YR Yc X0 Yy ZU ZX ZY Y0 Y1 Yr Yv l22 i_1 Xo t28 t37 b46 = some r ∧ Env ⟨106, []⟩ [(0, .pointer (some ⟨b1, 0, none⟩)), (4, .pointer (some ⟨b24, 0, none⟩)), (6, .pointer (some ⟨b26, 0, none⟩)), (7, .pointer (some ⟨b33, 0, none⟩)), (9, v38), (10, v40), (28, .int .u8 i_1.Op), (33, .bool b46)] a ∧ St w hA hV [slP Z5 X8 YS, slP Z5 X9 YT, slP Z8 Xa YR, slP (kInt .u8) Xb X0, slP (kInt .u8) YI Yy, slP Za YJ Yr, slP (kInt .u8) YK Yv] [slO (kInt .u8) 5 v40 [0], slO (kInt .u8) 5 v38 t37, boxO b33 [v29, v30] 255, slO (kInt .u8) 5 v29 t28.1.Takes, slO (kInt .u8) 5 v30 t28.1.Gives, boxO b26 [(.slice none 0 0), (.slice none 0 0)] 255, boxO b24 [.int .u8 i_1.Op, .int .i64 i_1.A, .int .i64 i_1.B] 43, arrK ZC b1 [X8, X9, Xa, .int .i64 Yc, Xb, YI, .int .u8 ZU, .bool ZX, .int .i64 ZY, .int .i64 Y0, .int .i64 Y1, YJ, YK] 200 l22 [] 122] w2) ?_ ?_
  ·rintro a w2 ⟨b46, ho, ha, hw⟩
   refine CP.app ha hw ?_
   clear ha hw a w2
   refine cb ho (fun ho => ?_) fun ho => ?_
   ·refine so [7, 0, 1, 2, 3, 4, 5, 6] ?_
    obtain ⟨t47, hc, ho⟩ := bind_some ho
    refine SP.callA see (caps := []) _ fn240.h rfl rfl rfl rfl (fun w2 hP h1 sub s1 d1 ap hI => Xn.ok _ _ _ _ _ _ _ _ _ _ _ _ _ _ _ _ _ _ _ _ _ _ _ hc w2 hP sub (ap.get 0 rfl) (ap.get 1 rfl) (ap.get 2 rfl) (ap.get 3 rfl) (ap.get 4 rfl) (ap.get 5 rfl) (ap.get 6 rfl) _ h1 s1 d1 hI) (SP.k0 ?_)
    clear hc
    refine li (kInt .u8) [t47.1] fun v48 => ?_
    refine sh 0 fun Z9h => ?_
    refine st 4 ?_
    exact QE.meet fun a w2 ha hw => ⟨t47.2, [t47.1], t28.1.Gives, v48, v30, ho, ha.sub sb, (St.selO [5, 0, 3, 6] rfl rfl (St.W9 hw 0 rfl see))⟩
   refine ci ho (fun ho => ?_) fun ho => ?_
   ·refine dr ?_
    refine ge 2 ho fun x52 ho p50 Z9R => ?_
    refine DA.ghost (fun w2 h => h.fieldE see 0 rfl Z8.Z08) (fun p53 Z9S => ?_)
    refine DA.ghost (fun w2 h => h.openE see 0 rfl (fun (v55 : Value) => [v55]) (fun (v55 : Value) => [slP (kInt .u8) v55 x52.Args]) (fun h cs ⟨v55, e, p0⟩ => ⟨v55, e, All.cons p0 (All.nil _)⟩)) (fun z_ _ => ?_)
    rename Value => v55
    refine ge 6 ho fun x60 ho p58 Z9T => ?_
    refine DA.ghost (fun w2 h => h.fieldE see 0 rfl Z8.Z12) (fun p61 Z5l => ?_)
    refine gu 0 ?_
    refine (DA.phase (fun i => Nat.ble 0 i && Nat.blt i 23) (fun w2 => St w hA hV [atP p61 [.int .u8 x60.Result], elP (kInt .u8) p61 x60.Result, elP Z8 p58 x60, atP p53 [v55], slP (kInt .u8) v55 x52.Args, elP (kSl (kInt .u8)) p53 x52.Args, elP Z8 p50 x52, slP Z5 X8 YS, slP Z5 X9 YT, slP Z8 Xa YR, slP (kInt .u8) Xb X0, slP (kInt .u8) YI Yy, slP Za YJ Yr, slP (kInt .u8) YK Yv] [slO (kInt .u8) 5 v40 [0], slO (kInt .u8) 5 v38 t37, slO (kInt .u8) 5 v29 t28.1.Takes, slO (kInt .u8) 5 v30 t28.1.Gives, boxO b26 [(.slice none 0 0), (.slice none 0 0)] 255, boxO b24 [.int .u8 i_1.Op, .int .i64 i_1.A, .int .i64 i_1.B] 43, arrK ZC b1 [X8, X9, Xa, .int .i64 Yc, Xb, YI, .int .u8 ZU, .bool ZX, .int .i64 ZY, .int .i64 Y0, .int .i64 Y1, YJ, YK] 200 l22 [] 122] w2) ?_)
    refine ts 0 [0, 1, 3, 4, 5, 6, 7] ?_
    refine ts 1 [0, 1, 3, 4, 5, 6, 7] ?_
    refine ts 2 [0, 1, 3, 4, 5, 6, 7] ?_
    refine ts 3 [0, 1, 3, 4, 5, 6, 7] ?_
    refine DT.ts 4 rfl (Val.Uz see 6 rfl Tryz.underlying23 rfl rfl rfl) (fun w2 hw => (St.selO [0, 1, 3, 4, 5, 6, 7] rfl rfl hw)) ?_
    refine ts 5 [0, 1, 3, 4, 5, 6, 7] ?_
    refine ts 6 [0, 1, 3, 4, 5, 6, 7] ?_
    refine DT.ts 7 rfl (Val.ie rfl rfl Z9R) (sO [0, 1, 3, 4, 5, 6, 7]) ?_
    refine DT.ts 8 rfl (Val.fe rfl Z9S) (sO [0, 1, 3, 4, 5, 6, 7]) ?_
    refine ts 9 [0, 1, 3, 4, 5, 6, 7] ?_
    refine ts 10 [0, 1, 3, 4, 5, 6, 7] ?_
    refine ts 11 [0, 1, 3, 4, 5, 6, 7] ?_
    refine ts 12 [0, 1, 3, 4, 5, 6, 7] ?_
    refine ts 13 [0, 1, 3, 4, 5, 6, 7] ?_
    refine DT.ts 14 rfl (Val.Uz see 6 rfl Tryz.underlying23 rfl rfl rfl) (fun w2 hw => (St.selO [0, 1, 3, 4, 5, 6, 7] rfl rfl hw)) ?_
    refine ts 15 [0, 1, 3, 4, 5, 6, 7] ?_
    refine ts 16 [0, 1, 3, 4, 5, 6, 7] ?_
    refine DT.ts 17 rfl (Val.ie rfl rfl Z9T) (sO [0, 1, 3, 4, 5, 6, 7]) ?_
    refine DT.ts 18 rfl (Val.fe rfl Z5l) (sO [0, 1, 3, 4, 5, 6, 7]) ?_
    refine ts 19 [0, 1, 3, 4, 5, 6, 7] ?_
    refine ts 21 [0, 1, 3, 4, 5, 6, 7] ?_
    refine DT.list (l2 := #[true, true, true, true, true, true, true, true, true, true, true, true, true, true, true, true, true, true, true, true, false, true, false, false, false]) (by kernel_rfl) ?_
    refine DT.cut (ι := Value) (fun z => [(6, .pointer (some ⟨b26, 0, none⟩)), (7, .pointer (some ⟨b33, 0, none⟩)), (74, z)]) (fun z w2 => St w hA hV [atP p61 [.int .u8 x60.Result], elP (kInt .u8) p61 x60.Result, elP Z8 p58 x60, atP p53 [v55], slP (kInt .u8) v55 x52.Args, elP (kSl (kInt .u8)) p53 x52.Args, elP Z8 p50 x52, slP Z5 X8 YS, slP Z5 X9 YT, slP Z8 Xa YR, slP (kInt .u8) Xb X0, slP (kInt .u8) YI Yy, slP Za YJ Yr, slP (kInt .u8) YK Yv] [slO (kInt .u8) 5 z [x60.Result], slO (kInt .u8) 5 v40 [0], slO (kInt .u8) 5 v38 t37, boxO b33 [v55, v30] 255, slO (kInt .u8) 5 v29 t28.1.Takes, slO (kInt .u8) 5 v30 t28.1.Gives, boxO b26 [(.slice none 0 0), (.slice none 0 0)] 255, boxO b24 [.int .u8 i_1.Op, .int .i64 i_1.A, .int .i64 i_1.B] 43, arrK ZC b1 [X8, X9, Xa, .int .i64 Yc, Xb, YI, .int .u8 ZU, .bool ZX, .int .i64 ZY, .int .i64 Y0, .int .i64 Y1, YJ, YK] 200 l22 [] 122] w2) 2 #[true, true, true, true, true, true, true, true, true, true, true, true, true, true, true, true, true, true, true, true, true, true, true, false, false] (fun z => ?_) (fun J5282 => ?_)
    ·rename Value => v4270
     refine dn ?_
     refine d1 23 ?_
     refine d1 (h := id) 24 ?_
     refine sh 0 fun Zal => ?_
     refine st 3 ?_
     refine dz ?_
     exact QE.meet fun a w2 ha hw => ⟨l22, x52.Args, [x60.Result], v55, v4270, ho, ha.sub sb, (St.selP [4, 7, 8, 9, 10, 11, 12, 13] rfl (St.selO [0, 8, 3, 6] rfl rfl hw))⟩
    refine DT.cut (ι := Value) (fun z => [(6, .pointer (some ⟨b26, 0, none⟩)), (7, .pointer (some ⟨b33, 0, none⟩)), (63, v55), (74, z), (75, .pointer (some ⟨b33, 0, none⟩))]) (fun z w2 => St w hA hV [atP p61 [.int .u8 x60.Result], elP (kInt .u8) p61 x60.Result, elP Z8 p58 x60, atP p53 [v55], slP (kInt .u8) v55 x52.Args, elP (kSl (kInt .u8)) p53 x52.Args, elP Z8 p50 x52, slP Z5 X8 YS, slP Z5 X9 YT, slP Z8 Xa YR, slP (kInt .u8) Xb X0, slP (kInt .u8) YI Yy, slP Za YJ Yr, slP (kInt .u8) YK Yv] [slO (kInt .u8) 5 z [x60.Result], slO (kInt .u8) 5 v40 [0], slO (kInt .u8) 5 v38 t37, boxO b33 [v29, v30] 255, slO (kInt .u8) 5 v29 t28.1.Takes, slO (kInt .u8) 5 v30 t28.1.Gives, boxO b26 [(.slice none 0 0), (.slice none 0 0)] 255, boxO b24 [.int .u8 i_1.Op, .int .i64 i_1.A, .int .i64 i_1.B] 43, arrK ZC b1 [X8, X9, Xa, .int .i64 Yc, Xb, YI, .int .u8 ZU, .bool ZX, .int .i64 ZY, .int .i64 Y0, .int .i64 Y1, YJ, YK] 200 l22 [] 122] w2) 3 #[true, true, true, true, true, true, true, true, true, true, true, true, true, true, true, true, true, true, true, true, true, true, false, false, false] (fun z => ?_) (fun J5283 => ?_)
    ·rename Value => v4270
     refine DT.one 22 rfl (by kernel_rfl) rfl ?_
     refine sp 4 fun Z9i => ?_
     refine st 3 ?_
     refine QE.atT (fun w2 hw => (St.selO [1, 2, 4, 5, 6, 7, 8] rfl rfl hw)) ?_
     refine DT.list (l2 := #[true, true, true, true, true, true, true, true, true, true, true, true, true, true, true, true, true, true, true, true, true, true, true, false, false]) (by kernel_rfl) ?_
     exact DT.weak (by exact ⟨rfl, rfl, rfl, trivial⟩) (by exact fun w2 hw => hw) (J5282 v4270)
    refine DT.cut (ι := Unit) (fun z => [(6, .pointer (some ⟨b26, 0, none⟩)), (7, .pointer (some ⟨b33, 0, none⟩)), (73, .int .u8 x60.Result)]) (fun z w2 => St w hA hV [atP p61 [.int .u8 x60.Result], elP (kInt .u8) p61 x60.Result, elP Z8 p58 x60, atP p53 [v55], slP (kInt .u8) v55 x52.Args, elP (kSl (kInt .u8)) p53 x52.Args, elP Z8 p50 x52, slP Z5 X8 YS, slP Z5 X9 YT, slP Z8 Xa YR, slP (kInt .u8) Xb X0, slP (kInt .u8) YI Yy, slP Za YJ Yr, slP (kInt .u8) YK Yv] [slO (kInt .u8) 5 v40 [0], slO (kInt .u8) 5 v38 t37, boxO b33 [v55, v30] 255, slO (kInt .u8) 5 v29 t28.1.Takes, slO (kInt .u8) 5 v30 t28.1.Gives, boxO b26 [(.slice none 0 0), (.slice none 0 0)] 255, boxO b24 [.int .u8 i_1.Op, .int .i64 i_1.A, .int .i64 i_1.B] 43, arrK ZC b1 [X8, X9, Xa, .int .i64 Yc, Xb, YI, .int .u8 ZU, .bool ZX, .int .i64 ZY, .int .i64 Y0, .int .i64 Y1, YJ, YK] 200 l22 [] 122] w2) 3 #[true, true, true, true, true, true, true, true, true, true, true, true, true, true, true, true, true, true, true, true, false, true, true, false, false] (fun z => ?_) (fun J5284 => ?_)
    ·refine DT.one 20 rfl (by kernel_rfl) rfl ?_
     refine li (kInt .u8) [x60.Result] fun v4270 => ?_
     refine QE.atT (fun w2 hw => (St.selO [1, 2, 4, 5, 6, 7, 8] rfl rfl hw)) ?_
     refine DT.list (l2 := #[true, true, true, true, true, true, true, true, true, true, true, true, true, true, true, true, true, true, true, true, true, true, true, false, false]) (by kernel_rfl) ?_
     exact DT.weak (by exact ⟨rfl, rfl, rfl, trivial⟩) (by exact fun w2 hw => hw) (J5282 v4270)
    refine DT.any 20 [22] (by kernel_rfl) ⟨⟨_, rfl, rfl, ?_⟩, ⟨_, rfl, rfl, ?_⟩, trivial⟩
    ·refine li (kInt .u8) [x60.Result] fun v4270 => ?_
     refine QE.atT (fun w2 hw => (St.selO [1, 2, 4, 5, 6, 7, 8] rfl rfl hw)) ?_
     refine DT.list (l2 := #[true, true, true, true, true, true, true, true, true, true, true, true, true, true, true, true, true, true, true, true, true, true, false, false, false]) (by kernel_rfl) ?_
     exact DT.weak (by exact ⟨rfl, rfl, rfl, rfl, rfl, trivial⟩) (by exact fun w2 hw => hw) (J5283 v4270)
    refine sp 4 fun Z9i => ?_
    refine st 2 ?_
    refine QE.atT (fun w2 hw => (St.selO [0, 1, 3, 4, 5, 6, 7] rfl rfl hw)) ?_
    refine DT.list (l2 := #[true, true, true, true, true, true, true, true, true, true, true, true, true, true, true, true, true, true, true, true, false, true, true, false, false]) (by kernel_rfl) ?_
    exact DT.weak (by exact ⟨rfl, rfl, rfl, trivial⟩) (by exact fun w2 hw => hw) (J5284 ())
   refine ci ho (fun ho => ?_) fun ho => ?_
   ·refine SP.val (Val.Uz see 7 rfl Tryz.underlying5 rfl rfl rfl) rfl rfl rfl ?_
    refine li (kInt .u8) [ZU] fun v5287 => ?_
    refine sh 0 fun Zam => ?_
    refine st 3 ?_
    exact QE.meet fun a w2 ha hw => ⟨l22, [ZU], t28.1.Gives, v5287, v30, ho, ha.sub sb, (St.selO [4, 7, 2, 5] rfl rfl (St.W9 hw 0 rfl see))⟩
   refine ci ho (fun ho => ?_) fun ho => ?_
   ·refine sh 1 fun ZaK => ?_
    refine st 2 ?_
    refine so [1, 0, 2, 3, 4, 5, 6, 7] ?_
    obtain ⟨hb, ho⟩ := X6 ho
    refine SP.callA see (caps := []) (fun r => HO.pand (r = .tuple #[]) (HO.seps [slO (kInt .u8) 5 v38 t37.reverse])) fn241.h rfl rfl rfl rfl (fun w2 hP h1 sub s1 d1 ap hI => Z1I hb sub s1 d1 hI) (SP.k0 ?_)
    clear hb
    refine gg ?_
    refine li (h := fun _ => id) (kInt .u8) [0] fun v5290 => ?_
    refine fz 0 ?_
    refine ap 1 0 ho fun v5292 ho => ?_
    refine sh 1 fun Zan => ?_
    refine st 2 ?_
    exact QE.meet fun a w2 ha hw => ⟨l22, ([0] ++ [0]), t37.reverse, v5292, v38, ho, ha.sub sb, (St.selP [0, 2, 3, 4, 5, 6, 7, 8] rfl (St.selO [0, 6, 1, 4] rfl rfl (St.W9 hw 1 rfl see)))⟩
   refine ci ho (fun ho => ?_) fun ho => ?_
   ·refine ci ho (fun ho => ?_) fun ho => ?_
    ·refine fz 1 ?_
     obtain ⟨hz, ho⟩ := X6 ho
     refine SP.Z1A see 0 rfl Tryz.underlying31 sz5.h rfl rfl hz rfl rfl (fun v5294 => ?_)
     clear hz
     refine k1 ZF.ok ho fun t5296 ho v5297 => ?_
     refine sh 0 fun Zao => ?_
     refine st 2 ?_
     exact QE.meet fun a w2 ha hw => ⟨t5296, v5297, ho, ha.sub sb, (St.selP [2, 3, 4, 5, 6, 7, 8] rfl (St.selO [0, 1, 2, 3, 5, 7] rfl rfl hw))⟩
    exact QE.meet fun a w2 ha hw => ⟨t28.1.Gives, v30, ho, ha.sub sb, (St.selO [4, 0, 2, 3, 5, 7] rfl rfl hw)⟩
   exact QE.meet fun a w2 ha hw => ⟨t28.1.Gives, v30, ho, ha.sub sb, (St.selO [4, 0, 2, 3, 5, 7] rfl rfl hw)⟩
  refine gg ?_
  refine ci ho (fun ho => ?_) fun ho => ?_
  ·exact QE.meet fun a w2 ha hw => ⟨(decide (i_1.Op = 3)), ho, ha.sub sb, hw⟩
  exact QE.meet fun a w2 ha hw => ⟨(decide (i_1.Op = 5)), ho, ha.sub sb, hw⟩
 refine gg ?_
 refine ci ho (fun ho => ?_) fun ho => ?_
 ·exact QE.meet fun a w2 ha hw => ⟨(decide (i_1.Op = 1)), ho, ha.sub sb, (St.selP [1, 2, 3, 4, 5, 6, 7] rfl hw)⟩
 refine ci ho (fun ho => ?_) fun ho => ?_
 ·exact QE.meet fun a w2 ha hw => ⟨(decide (i_1.Op = 2)), ho, ha.sub sb, (St.selP [1, 2, 3, 4, 5, 6, 7] rfl hw)⟩
 exact QE.meet fun a w2 ha hw => ⟨(decide (i_1.Op = 4)), ho, ha.sub sb, (St.selP [1, 2, 3, 4, 5, 6, 7] rfl hw)⟩
inductive YP.S where
  | start
  | l1 (t26 : XF × (List Ze)) (x60 : Int)
def YP.F (YS YT : List Zn) (YR : List Zb) (Yc : Int) (X0 Yy : List Int) (ZU : Int) (ZX : Bool) (ZY Y0 Y1 : Int) (Yr : List Z7) (Yv : List Int) (l22 : List Ze) (i_1 : Z7) (Xo : List Int) : YP.S → Option (YP.S ⊕ (((List Int) × Int) × (List Ze)))
  | .start => (ZE.f YS YT YR Yc X0 Yy ZU ZX ZY Y0 Y1 Yr Yv l22 i_1 Xo).bind fun t26 => if (IntKind.i64.wrap ((Xo.length : Int) - (t26.1.Takes.length : Int))) < 0 then (some (.inr (([], 101), t26.2))) else (some (.inl (.l1 t26 0)))
  | .l1 t26 x60 => if x60 < (t26.1.Takes.length : Int) then ((elt t26.1.Takes x60).bind fun x64 => (if x64 ≠ 0 then ((elt Xo (IntKind.i64.wrap ((IntKind.i64.wrap ((Xo.length : Int) - (t26.1.Takes.length : Int))) + x60))).bind fun x69 => some (decide (x64 ≠ x69))) else (some false)).bind fun t70 => if t70 = true then (some (.inr (([], 100), t26.2))) else (some (.inl (.l1 t26 (IntKind.i64.wrap (x60 + 1)))))) else (if (0 : Int) ≤ (IntKind.i64.wrap ((Xo.length : Int) - (t26.1.Takes.length : Int))) ∧ (IntKind.i64.wrap ((Xo.length : Int) - (t26.1.Takes.length : Int))) ≤ (Xo.length : Int) then ((ZA.f [(Xo.take (IntKind.i64.wrap ((Xo.length : Int) - (t26.1.Takes.length : Int)) : Int).toNat), t26.1.Gives]).bind fun t84 => some (.inr ((t84, 0), t26.2))) else none)
def YP.f (YS YT : List Zn) (YR : List Zb) (Yc : Int) (X0 Yy : List Int) (ZU : Int) (ZX : Bool) (ZY Y0 Y1 : Int) (Yr : List Z7) (Yv : List Int) (l22 : List Ze) (i_1 : Z7) (Xo : List Int) : Option (((List Int) × Int) × (List Ze)) := runF (YP.F YS YT YR Yc X0 Yy ZU ZX ZY Y0 Y1 Yr Yv l22 i_1 Xo) .start
theorem YP.ok (YS YT : List Zn) (YR : List Zb) (Yc : Int) (X0 Yy : List Int) (ZU : Int) (ZX : Bool) (ZY Y0 Y1 : Int) (Yr : List Z7) (Yv : List Int) (l22 : List Ze) (i_1 : Z7) (Xo : List Int) (X8 X9 Xa Xb YI YJ YK KE : Value) (r : ((List Int) × Int) × (List Ze)) (H : YP.f YS YT YR Yc X0 Yy ZU ZX ZY Y0 Y1 Yr Yv l22 i_1 Xo = some r) (w : World) (hV : Hp) (sV : Sub hV (hp w)) (h0 : slR Z5 hV X8 YS) (h1 : slR Z5 hV X9 YT) (h2 : slR Z8 hV Xa YR) (h3 : slR (kInt .u8) hV Xb X0) (h4 : slR (kInt .u8) hV YI Yy) (h5 : slR Za hV YJ Yr) (h6 : slR (kInt .u8) hV YK Yv) (h7 : slR (kInt .u8) hV KE Xo) (b1 : Nat) (hA : Hp) (sA : Sub hA (hp w)) (dA : Dj hV hA) (hI : (arrK ZC b1 [X8, X9, Xa, .int .i64 Yc, Xb, YI, .int .u8 ZU, .bool ZX, .int .i64 ZY, .int .i64 Y0, .int .i64 Y1, YJ, YK] 200 l22 [] 122).p hV hA) :
    Trip Tryz.prog 136 [.pointer (some ⟨b1, 0, none⟩), .agg #[.int .u8 i_1.Op, .int .i64 i_1.A, .int .i64 i_1.B], KE].toArray hA hV w (fun v => HO.ex fun u0 : Value => HO.pand (v = .tuple #[u0, .int .i64 r.1.2]) (HO.seps [slO (kInt .u8) 5 u0 r.1.1, arrK ZC b1 [X8, X9, Xa, .int .i64 Yc, Xb, YI, .int .u8 ZU, .bool ZX, .int .i64 ZY, .int .i64 Y0, .int .i64 Y1, YJ, YK] 200 r.2 [] 122])) := by
 have see : Sees w hA hV := ⟨sV, dA⟩
 refine Trip.of (P := Tryz.prog) (n := ⟨52, []⟩) Tryz.func136 rfl ⟨rfl, rfl⟩ rfl (St.beginA (os := [arrK ZC b1 [X8, X9, Xa, .int .i64 Yc, Xb, YI, .int .u8 ZU, .bool ZX, .int .i64 ZY, .int .i64 Y0, .int .i64 Y1, YJ, YK] 200 l22 [] 122]) sA (aS h0 (aS h1 (aS h2 (aS h3 (aS h4 (aS h5 (aS h6 (aS h7 (All.nil _))))))))) ⟨hA, em, Dj.XR _, Sub.refl _, Sub.em _, hI, trivial⟩) ?_
 obtain ⟨m0, o, ho, hr⟩ := rn H
 refine gg ?_
 refine bx fun b24 => ?_
 refine so [1, 0] ?_
 obtain ⟨t26, hc, ho⟩ := bind_some ho
 refine SP.callA see (caps := []) _ fn199.h rfl rfl rfl rfl (fun w2 hP h1 sub s1 d1 ap hI => ZE.ok _ _ _ _ _ _ _ _ _ _ _ _ _ _ _ _ _ _ _ _ _ _ _ _ _ hc w2 hP sub (ap.get 0 rfl) (ap.get 1 rfl) (ap.get 2 rfl) (ap.get 3 rfl) (ap.get 4 rfl) (ap.get 5 rfl) (ap.get 6 rfl) (ap.get 7 rfl) _ h1 s1 d1 hI) (SP.k2 fun v27 v28 => ?_)
 refine SP.imp (fun w2 h => St.toP 0 rfl h) ?_
 clear hc
 refine al (h := fun _ => id) fun b31 => ?_
 refine sp (h := id) 0 fun ZaL => ?_
 refine sh 1 fun ZaM => ?_
 refine st 0 ?_
 refine ci ho (fun ho => ?_) fun ho => ?_
 ·exact fin ho hr ▸ rt (fun _ h => St.selO [0, 3] rfl rfl (St.addO (slO.nil (kInt .u8) 5) h))
 refine lo ho hr (fun z => ∃ x60, z (.l1 t26 x60) [(2, KE), (8, .pointer (some ⟨b31, 0, none⟩)), (9, .int .i64 (IntKind.i64.wrap ((Xo.length : Int) - (t26.1.Takes.length : Int)))), (25, v27), (26, .int .i64 (t26.1.Takes.length : Int)), (27, .int .i64 x60)] [boxO b31 [v27, v28] 255, slO (kInt .u8) 5 v28 t26.1.Gives, arrK ZC b1 [X8, X9, Xa, .int .i64 Yc, Xb, YI, .int .u8 ZU, .bool ZX, .int .i64 ZY, .int .i64 Y0, .int .i64 Y1, YJ, YK] 200 t26.2 [] 122]) (fun _ z => ⟨0, z⟩) ?_ (sO [0, 1, 2]) (hb := pe [slP (kInt .u8) v27 t26.1.Takes, slP Z5 X8 YS, slP Z5 X9 YT, slP Z8 Xa YR, slP (kInt .u8) Xb X0, slP (kInt .u8) YI Yy, slP Za YJ Yr, slP (kInt .u8) YK Yv, slP (kInt .u8) KE Xo])
 rintro _ _ _ ⟨x60, m61, o, _, _, ho, hr, h⟩
 refine en h ?_
 refine ci ho (fun ho => ?_) fun ho => ?_
 ·refine ip 0 ho fun x64 ho p62 => ?_
  refine SP.val (Val.loadP1 see 0 rfl (fun _ _ e => e) Tryz.underlying5 rfl rfl) rfl rfl rfl (gg ?_)
  obtain ⟨t70, Z5T, ho⟩ := bind_some ho
  refine SP.jn 9 [2, 8, 9, 25, 26, 27] 43 (.bool t70) ?_ ?_
  ·clear Z5T
   refine gg ?_
   refine cb ho (fun ho => ?_) fun ho => ?_
   ·exact fin ho hr ▸ rt (fun _ h => St.selO [0, 3] rfl rfl (St.addO (slO.nil (kInt .u8) 5) h))
   exact lw ho hr (fun _ z => ⟨(IntKind.i64.wrap (x60 + 1)), z⟩)
  refine bi 34 Z5T (fun hq66 ho => ?_) fun hq66 ho => ?_
  ·refine ip 9 ho fun x69 ho p67 => ?_
   refine SP.val (Val.loadP1 see 0 rfl (fun _ _ e => e) Tryz.underlying5 rfl rfl) rfl rfl rfl (gg ?_)
   obtain rfl := Option.some.inj ho
   exact QE.jn fun w2 hw => (St.selP [1, 2, 3, 4, 5, 6, 7, 8, 9, 10] rfl hw)
  obtain rfl := Option.some.inj ho
  exact jn
 refine dr ?_
 refine DA.ph 0 5 ?_
 refine DT.tk 0 ?_
 refine DT.tk 1 ?_
 refine DT.tk 3 ?_
 refine DT.tk 4 ?_
 refine DT.one 2 rfl (by kernel_rfl) rfl ?_
 obtain ⟨hz, ho⟩ := X6 ho
 refine SP.Z1e see 8 rfl Tryz.underlying31 sz5.h rfl rfl hz rfl rfl (fun v80 => ?_)
 clear hz
 refine gg ?_
 refine QE.atT (fun w2 hw => (St.selP [1, 2, 3, 4, 5, 6, 7, 8, 9] rfl hw)) ?_
 refine dn ?_
 refine d1 (h := id) 5 ?_
 refine fz 1 ?_
 refine SP.litS (k := (kSl (kInt .u8))) (xs := [(Xo.take (IntKind.i64.wrap ((Xo.length : Int) - (t26.1.Takes.length : Int)) : Int).toNat), t26.1.Gives]) (vs := [v80, v28]) Tryz.underlying191 inf31.h rfl rfl rfl rfl rfl rfl (fun _ ap => ⟨slR.cells1 (ap.get 1 rfl), slR.cells1 (ap.get 0 rfl), trivial⟩) (fun _ ap => ⟨[v80], _, rfl, ⟨_, rfl, ap.get 1 rfl⟩, ⟨[v28], _, rfl, ⟨_, rfl, ap.get 0 rfl⟩, rfl⟩⟩) rfl rfl rfl (fun v82 => gg ?_)
 refine d1 6 ?_
 obtain ⟨t84, hc, ho⟩ := bind_some ho
 refine SP.callKO see (caps := []) _ fn76.h rfl rfl rfl rfl (fun w2 hs => ZA.ok _ hc w2 (hp w2) (Sub.refl _) (aS (slO.read (St.own 0 rfl see.sub see.dj hs) (Sub.refl _) (Sub.refl _)) (All.nil _))) (fun v a a2 b ⟨v85, e, h⟩ => ⟨v85, e, (Sep.fcons (fun _ => slO.flip (fun _ _ _ _ h => h)) (fun _ => Sep.fnil)) h⟩) (SP.k1 fun v85 => ?_)
 clear hc
 refine gg ?_
 refine d1 7 ?_
 refine d1 8 ?_
 refine dz ?_
 exact fin ho hr ▸ rt (sO [0, 3])
def J3.f (Zg : Int) : Option Bool :=
  (Tj.f Zg).bind fun t1 => some (((t1 && (decide (Zg ≠ 26))) && (decide (Zg ≠ 31))) && (decide (Zg ≠ 32)))
theorem J3.ok {Zg} (r) (ho : J3.f Zg = some r) : Ok Tryz.prog 200 [.int .u8 Zg] [] fun v => HO.pure (v = .bool r) := by
 refine oq 17 Tryz.func200 fun w hV see pb => ?_
 refine kv Tj.ok ho fun t1 ho => ?_
 refine SP.jn 3 [0] 8 (.bool (t1 && (decide (Zg ≠ 26)))) ?_ ?_
 ·refine gg ?_
  refine SP.jn 3 [0] 12 (.bool ((t1 && (decide (Zg ≠ 26))) && (decide (Zg ≠ 31)))) ?_ ?_
  ·refine gg ?_
   refine SP.jn 3 [] 16 (.bool (((t1 && (decide (Zg ≠ 26))) && (decide (Zg ≠ 31))) && (decide (Zg ≠ 32)))) ?_ ?_
   ·refine gg ?_
    exact Option.some.inj ho ▸ rt
   refine bb 13 (fun hq7 => ?_) fun hq7 => ?_
   ·exact jb (XT hq7 rfl)
   exact jb (XU hq7)
  refine bb 9 (fun hq5 => ?_) fun hq5 => ?_
  ·exact jb (XT hq5 rfl)
  exact jb (XU hq5)
 refine bb 5 (fun hq3 => ?_) fun hq3 => ?_
 ·exact jb (XT hq3 rfl)
 exact jb (XU hq3)
def KF.f (Zg : Int) : Option Bool :=
  (V4.f Zg).bind fun t1 => some (decide (t1 = 5))
theorem KF.ok {Zg} (r) (ho : KF.f Zg = some r) : Ok Tryz.prog 201 [.int .u8 Zg] [] fun v => HO.pure (v = .bool r) := by
 refine oq 6 Tryz.func201 fun w hV see pb => ?_
 refine kv V4.ok ho fun t1 ho => ?_
 exact Option.some.inj ho ▸ rt
shelf_lay_g SlLaysM.n5 Slgm 5 at Tryz 48 as Tryz.sorti48
theorem Z14 {v : Value} {l : List Int} (hll : l.length < 4611686018427387904) {w : World} {hP h1 : Hp} (sub : Sub hP (hp w)) (s1 : Sub h1 (hp w)) (dj : Dj hP h1) (hI : (slO (kInt .i64) 3 v l).p hP h1) :
    Trip Tryz.prog 48 #[v] h1 hP w (fun r => HO.pand (r = .tuple #[]) (HO.seps [slO (kInt .i64) 3 v (l.mergeSort fun x y => decide (x ≤ y))])) := by
  have h := slO.Z0J (P := Tryz.prog) (f := 48) (fun v => #[v]) (fun _ => .tuple #[]) (fun x => [Value.int .i64 x]) (fun h cs x => Iff.rfl) (fun d : Array Int => (d.toList.mergeSort fun x y => decide (x ≤ y)).toArray) (fun d => by simp) (fun blk cap d w hH hb hsz _ _ => ?_) (fun _ w hV sV => ?_) hll sub s1 dj hI
  · simpa using h
  · have := AnyM.slices_Sort_int Tryz.sorti48 blk 0 cap d.toList w (holdsOne.1 hH) hb (by simpa using hsz)
    refine this.mono fun e w' ⟨h1, n, os, h2⟩ => ⟨h1, n, os, h2.trans (Eq.symm Z28)⟩
  · refine (AnyM.slices_Sort_int_none Tryz.sorti48 none 0 w).mono fun e w' ⟨he, hw⟩ => ?_
    subst hw
    exact ⟨_, he, Met.refl _, fun _ _ e _ => e, em, em, fun _ _ _ => rfl, fun _ _ _ => rfl, Dj.Yw _, Sub.em _, Sub.em _, rfl⟩
shelf_lay_g SlLaysN.n43 Slgn 43 at Tryz 49 as Tryz.compacti49
theorem Ji {v : Value} {l : List Int} (hll : l.length < 4611686018427387904) {w : World} {hP h1 : Hp} (sub : Sub hP (hp w)) (s1 : Sub h1 (hp w)) (dj : Dj hP h1) (hI : (slO (kInt .i64) 3 v l).p hP h1) :
    Trip Tryz.prog 49 #[v] h1 hP w (fun r => HO.ex fun u : Value => HO.pand (r = u) (HO.seps [slO (kInt .i64) 3 u (Lib.compact l)])) := by
  have hle : (Lib.compact l).length ≤ l.length := Z1z l
  have h := slO.Z0J (P := Tryz.prog) (f := 49) (fun v => #[v]) (fun v => Z29 v (Lib.compact l).length) (fun x => [Value.int .i64 x]) (fun h cs x => Iff.rfl) (fun d : Array Int => (Lib.compact d.toList ++ List.replicate (d.size - (Lib.compact d.toList).length) 0).toArray) (fun d => by have := Z1z d.toList; simp at this ⊢; omega) (fun blk cap d w hH hb hsz hcap hd => ?_) (fun h0 w hV sV => ?_) hll sub s1 dj hI
  · exact slO.Z7E (by simp only [List.length_append]; omega) (by simp) h
  · have := AnyG.slices_Compact_int Tryz.compacti49 blk 0 cap d.toList w (holdsOne.1 hH) (by simp; omega) (by simpa using hcap)
    refine this.mono fun e w' ⟨h1, n, h2⟩ => ⟨?_, n, #[], h2.trans (Eq.trans ?_ (Eq.symm Z28))⟩
    · rw [h1, hd]; rfl
    · rw [Z2D]; simp
  · refine (AnyG.slices_Compact_int_empty Tryz.compacti49 none 0 w).mono fun e w' ⟨he, hw⟩ => ?_
    subst hw
    exact ⟨_, he, Met.refl _, fun _ _ e _ => e, em, em, fun _ _ _ => rfl, fun _ _ _ => rfl, Dj.Yw _, Sub.em _, Sub.em _, rfl⟩
def XW.j2 (l_0 : List Z7) (a1 : Int) (l31 : List Int) : Option ((List Int) × Int) :=
  if l31.length < 4611686018427387904 then (if (l31.mergeSort fun x y => decide (x ≤ y)).length < 4611686018427387904 then (some ((Lib.compact (l31.mergeSort fun x y => decide (x ≤ y))), 0)) else none) else none
def XW.j1 (l_0 : List Z7) (a1 : Int) (x9 : Z7) (l19 : List Int) : Option ((List Int) × Int) :=
  if x9.Op = 29 then (if (l19.length + [IntKind.i64.wrap (x9.A + 1)].length) * 8 ≤ 140737488355328 then (XW.j2 l_0 a1 (l19 ++ [IntKind.i64.wrap (x9.A + 1)])) else none) else ((KF.f x9.Op).bind fun t25 => if t25 = true then (if (l19.length + [x9.A].length) * 8 ≤ 140737488355328 then (XW.j2 l_0 a1 (l19 ++ [x9.A])) else none) else (XW.j2 l_0 a1 l19))
def XW.f (l_0 : List Z7) (a1 : Int) : Option ((List Int) × Int) :=
  (Ve.f l_0).bind fun t2 => if t2 ≠ 0 then (some ([], t2)) else (if ((decide (a1 < 0)) || (decide (a1 ≥ (l_0.length : Int)))) = true then (some ([], 2)) else ((elt l_0 a1).bind fun x9 => (J3.f x9.Op).bind fun t12 => if t12 = true then (if (([] : List Int).length + [IntKind.i64.wrap (a1 + 1)].length) * 8 ≤ 140737488355328 then (XW.j1 l_0 a1 x9 (([] : List Int) ++ [IntKind.i64.wrap (a1 + 1)])) else none) else (XW.j1 l_0 a1 x9 [])))
theorem XW.ok {l_0 a1 Y2} (r) (ho : XW.f l_0 a1 = some r) : Ok Tryz.prog 137 [Y2, .int .i64 a1] [slP Za Y2 l_0, arrP ZV 0 tab0] fun v => HO.ex fun u0 : Value => HO.pand (v = .tuple #[u0, .int .i64 r.2]) (HO.seps [slO (kInt .i64) 3 u0 r.1]) := by
 refine oq 57 Tryz.func137 fun w hV see pb => ?_
 refine kv Ve.ok ho fun t2 ho => ?_
 refine ci ho (fun ho => ?_) fun ho => ?_
 ·exact Option.some.inj ho ▸ rt (fun _ h => St.selO [0] rfl rfl (St.addO (slO.nil (kInt .i64) 3) h))
 refine SP.jn 5 [0, 1] 21 (.bool ((decide (a1 < 0)) || (decide (a1 ≥ (l_0.length : Int))))) ?_ ?_
 ·refine gg ?_
  refine cb ho (fun ho => ?_) fun ho => ?_
  ·exact Option.some.inj ho ▸ rt (fun _ h => St.selO [0] rfl rfl (St.addO (slO.nil (kInt .i64) 3) h))
  refine ip 0 ho fun x9 ho p7 => ?_
  refine ld 0 ?_
  refine al fun b10 => ?_
  refine st (h := id) 0 ?_
  refine go ?_
  refine oi r (fun z => ∃ l19 v20, z (XW.j1 l_0 a1 x9 l19) [(7, v20), (8, .pointer (some ⟨b10, 0, none⟩))] [slO (kInt .i64) 3 v20 l19, boxO b10 [.int .u8 x9.Op, .int .i64 x9.A, .int .i64 x9.B] 43]) ?_ ?_ (hb := pe [arrP ZV 0 tab0])
  ·rintro _ _ ⟨l19, v20, ho, h⟩
   refine en (g := id) h ?_
   refine oi r (fun z => ∃ l31 v32, z (XW.j2 l_0 a1 l31) [(7, v32)] [slO (kInt .i64) 3 v32 l31]) ?_ ?_ (hb := pe [arrP ZV 0 tab0])
   ·rintro _ _ ⟨l31, v32, ho, h⟩
    refine en h ?_
    obtain ⟨hb, ho⟩ := X6 ho
    refine SP.callA see (caps := []) (fun r => HO.pand (r = .tuple #[]) (HO.seps [slO (kInt .i64) 3 v32 (l31.mergeSort fun x y => decide (x ≤ y))])) fn48.h rfl rfl rfl rfl (fun w2 hP h1 sub s1 d1 ap hI => Z14 hb sub s1 d1 hI) (SP.k0 ?_)
    clear hb
    refine gg ?_
    obtain ⟨hb, ho⟩ := X6 ho
    refine SP.callA see (caps := []) (fun r => HO.ex fun u : Value => HO.pand (r = u) (HO.seps [slO (kInt .i64) 3 u (Lib.compact (l31.mergeSort fun x y => decide (x ≤ y)))])) fn49.h rfl rfl rfl rfl (fun w2 hP h1 sub s1 d1 ap hI => Ji hb sub s1 d1 hI) (SP.k1 fun v35 => ?_)
    clear hb
    refine gg ?_
    exact Option.some.inj ho ▸ rt (sO [0])
   refine gg ?_
   refine ci ho (fun ho => ?_) fun ho => ?_
   ·refine li (h := fun _ => id) (kInt .i64) [IntKind.i64.wrap (x9.A + 1)] fun v21 => ?_
    refine fz 0 ?_
    refine ap 0 0 ho fun v23 ho => ?_
    exact mo ho (fun _ z => ⟨(l19 ++ [IntKind.i64.wrap (x9.A + 1)]), v23, z⟩) (sO [0])
   refine kv KF.ok ho fun t25 ho => ?_
   refine cb ho (fun ho => ?_) fun ho => ?_
   ·refine li (h := fun _ => id) (kInt .i64) [x9.A] fun v26 => ?_
    refine fz 0 ?_
    refine ap 0 0 ho fun v28 ho => ?_
    exact mo ho (fun _ z => ⟨(l19 ++ [x9.A]), v28, z⟩) (sO [0])
   exact mo ho (fun _ z => ⟨l19, v20, z⟩) (sO [0])
  refine gg ?_
  refine kv J3.ok ho fun t12 ho => ?_
  refine cb ho (fun ho => ?_) fun ho => ?_
  ·refine li (h := fun _ => id) (kInt .i64) [IntKind.i64.wrap (a1 + 1)] fun v13 => ?_
   refine sn (kInt .i64) 3 ?_
   refine fz 1 ?_
   refine ap 0 0 ho fun v16 ho => ?_
   exact mo ho (fun _ z => ⟨(([] : List Int) ++ [IntKind.i64.wrap (a1 + 1)]), v16, z⟩)
  exact mo ho (fun _ z => ⟨[], (.slice none 0 0), z⟩) (fun _ hw => (St.addO (slO.nil (kInt .i64) 3) hw))
 refine bb 16 (fun hq5 => ?_) fun hq5 => ?_
 ·exact jb (WL hq5)
 exact jb (WM hq5 rfl)
inductive Zv.S where
  | start
  | l1 (x12 : Int)
def Zv.F (JK Z1g : List Int) : Zv.S → Option (Zv.S ⊕ Bool)
  | .start => if (JK.length : Int) ≠ (Z1g.length : Int) then (some (.inr false)) else (some (.inl (.l1 0)))
  | .l1 x12 => if x12 < (JK.length : Int) then ((elt JK x12).bind fun x16 => (elt Z1g x12).bind fun x20 => if x16 ≠ x20 then (some (.inr false)) else (some (.inl (.l1 (IntKind.i64.wrap (x12 + 1)))))) else (some (.inr true))
def Zv.f (JK Z1g : List Int) : Option Bool := runF (Zv.F JK Z1g) .start
theorem Zv.ok {JK Z1g Z3F Z3G} (r) (H : Zv.f JK Z1g = some r) : Ok Tryz.prog 138 [Z3F, Z3G] [slP (kInt .u8) Z3F JK, slP (kInt .u8) Z3G Z1g] fun v => HO.pure (v = .bool r) := by
 refine oq 26 Tryz.func138 fun w hV see pb => ?_
 obtain ⟨m0, o, ho, hr⟩ := rn H
 refine ci ho (fun ho => ?_) fun ho => ?_
 ·exact fin ho hr ▸ rt
 refine lo ho hr (fun z => ∃ x12, z (.l1 x12) [(0, Z3F), (1, Z3G), (12, .int .i64 (JK.length : Int)), (13, .int .i64 x12)] []) (fun _ z => ⟨0, z⟩) ?_
 rintro _ _ _ ⟨x12, m13, o, _, _, ho, hr, h⟩
 refine en h ?_
 refine ci ho (fun ho => ?_) fun ho => ?_
 ·refine dr ?_
  refine ge 0 ho fun x16 ho p14 KS => ?_
  refine gu 0 ?_
  refine ge 3 ho fun x20 ho p18 KT => ?_
  refine gu 0 ?_
  refine DA.ph 0 8 ?_
  refine DT.tk 0 ?_
  refine DT.tk 1 ?_
  refine DT.tv 2 rfl (Val.ie rfl rfl KS) ?_
  refine tk 3 ?_
  refine DT.tk 4 ?_
  refine DT.tk 5 ?_
  refine DT.tv 6 rfl (Val.ie rfl rfl KT) ?_
  refine tk 7 ?_
  refine dn ?_
  refine d1 8 ?_
  refine dz ?_
  refine ci ho (fun ho => ?_) fun ho => ?_
  ·exact fin ho hr ▸ rt
  exact lw ho hr (fun _ z => ⟨(IntKind.i64.wrap (x12 + 1)), z⟩)
 exact fin ho hr ▸ rt
inductive Yo.S where
  | start
  | l1 (t32 : ((List Int) × Int) × (List Ze)) (t35 : (List Int) × Int) (l58 : List Ze) (x59 : Int)
def Yo.F (YS YT : List Zn) (YR : List Zb) (Yc : Int) (X0 Yy : List Int) (ZU : Int) (ZX : Bool) (ZY Y0 Y1 : Int) (Yr : List Z7) (Yv : List Int) (l22 : List Ze) (a1 : Int) : Yo.S → Option (Yo.S ⊕ (Int × (List Ze)))
  | .start => (elt l22 a1).bind fun x23 => if (!x23.Reached) = true then (some (.inr (0, l22))) else ((elt Yr a1).bind fun x30 => (YP.f YS YT YR Yc X0 Yy ZU ZX ZY Y0 Y1 Yr Yv l22 x30 x23.Kinds).bind fun t32 => if t32.1.2 ≠ 0 then (some (.inr (t32.1.2, t32.2))) else ((XW.f Yr a1).bind fun t35 => some (.inl (.l1 t32 t35 t32.2 0))))
  | .l1 t32 t35 l58 x59 => if x59 < (t35.1.length : Int) then ((elt t35.1 x59).bind fun x62 => (elt l58 x62).bind fun x63 => (if x63.Reached = true then ((Zv.f x63.Kinds t32.1.1).bind fun t68 => some (!t68)) else (some false)).bind fun t69 => if t69 = true then (some (.inr (100, l58))) else (some (.inl (.l1 t32 t35 (l58.set x62.toNat (⟨true, t32.1.1⟩ : Ze)) (IntKind.i64.wrap (x59 + 1)))))) else (some (.inr (0, l58)))
def Yo.f (YS YT : List Zn) (YR : List Zb) (Yc : Int) (X0 Yy : List Int) (ZU : Int) (ZX : Bool) (ZY Y0 Y1 : Int) (Yr : List Z7) (Yv : List Int) (l22 : List Ze) (a1 : Int) : Option (Int × (List Ze)) := runF (Yo.F YS YT YR Yc X0 Yy ZU ZX ZY Y0 Y1 Yr Yv l22 a1) .start
theorem Yo.ok (YS YT : List Zn) (YR : List Zb) (Yc : Int) (X0 Yy : List Int) (ZU : Int) (ZX : Bool) (ZY Y0 Y1 : Int) (Yr : List Z7) (Yv : List Int) (l22 : List Ze) (a1 : Int) (X8 X9 Xa Xb YI YJ YK : Value)  (r : Int × (List Ze)) (H : Yo.f YS YT YR Yc X0 Yy ZU ZX ZY Y0 Y1 Yr Yv l22 a1 = some r) (w : World) (hV : Hp) (sV : Sub hV (hp w)) (h0 : slR Z5 hV X8 YS) (h1 : slR Z5 hV X9 YT) (h2 : slR Z8 hV Xa YR) (h3 : slR (kInt .u8) hV Xb X0) (h4 : slR (kInt .u8) hV YI Yy) (h5 : slR Za hV YJ Yr) (h6 : slR (kInt .u8) hV YK Yv) (h7 : (arrP ZV 0 tab0).p hV) (b1 : Nat) (hA : Hp) (sA : Sub hA (hp w)) (dA : Dj hV hA) (hI : (arrK ZC b1 [X8, X9, Xa, .int .i64 Yc, Xb, YI, .int .u8 ZU, .bool ZX, .int .i64 ZY, .int .i64 Y0, .int .i64 Y1, YJ, YK] 200 l22 [] 122).p hV hA) :
    Trip Tryz.prog 79 [.pointer (some ⟨b1, 0, none⟩), .int .i64 a1].toArray hA hV w (fun v => HO.pand (v = .int .i64 r.1) (HO.seps [arrK ZC b1 [X8, X9, Xa, .int .i64 Yc, Xb, YI, .int .u8 ZU, .bool ZX, .int .i64 ZY, .int .i64 Y0, .int .i64 Y1, YJ, YK] 200 r.2 [] 122])) := by
 have see : Sees w hA hV := ⟨sV, dA⟩
 refine Trip.of (P := Tryz.prog) (n := ⟨79, []⟩) Tryz.func79 rfl ⟨rfl, rfl⟩ rfl (St.beginA (os := [arrK ZC b1 [X8, X9, Xa, .int .i64 Yc, Xb, YI, .int .u8 ZU, .bool ZX, .int .i64 ZY, .int .i64 Y0, .int .i64 Y1, YJ, YK] 200 l22 [] 122]) sA (aS h0 (aS h1 (aS h2 (aS h3 (aS h4 (aS h5 (aS h6 (All.cons (x := arrP ZV 0 tab0) h7 (All.nil _))))))))) ⟨hA, em, Dj.XR _, Sub.refl _, Sub.em _, hI, trivial⟩) ?_
 obtain ⟨m0, o, ho, hr⟩ := rn H
 refine gg ?_
 obtain ⟨x23, Z3H, ho⟩ := YG ho
 refine SP.val (Val.indexK see 0 rfl Tryz.underlying120 sz119.h Z3H.1 Z3H.2 rfl rfl) rfl rfl rfl ?_
 refine SP.loadKO (j := a1) see 0 (fun (v24 : Value) => [.bool x23.Reached, v24]) (fun (v24 : Value) => [slP (kInt .u8) v24 x23.Kinds]) rfl Z3H.2 (fun a cs ⟨v24, e, p0⟩ => ⟨v24, e, All.cons p0 (All.nil _)⟩) Tryz.underlying119 rfl sz119.h rfl rfl rfl (fun z_ => ?_)
 rename Value => v24
 refine al (h := fun _ => id) fun b26 => ?_
 refine sp 0 fun ZaN => ?_
 refine st 0 ?_
 refine cb ho (fun ho => ?_) fun ho => ?_
 ·exact fin ho hr ▸ rt (sO [1])
 refine dr ?_
 refine ge 6 ho fun x30 ho p28 Z9U => ?_
 refine gu 0 ?_
 refine DA.ph 0 11 ?_
 refine DT.tk 0 ?_
 refine DT.tk 1 ?_
 refine DT.tk 2 ?_
 refine DT.tk 3 ?_
 refine DT.tk 4 ?_
 refine DT.tv 5 rfl (Val.Uz see 1 rfl Tryz.underlying32 rfl rfl rfl) ?_
 refine DT.tk 6 ?_
 refine DT.tv 7 rfl (Val.ie rfl rfl Z9U) ?_
 refine tk 8 ?_
 refine DT.tk 9 ?_
 refine DT.tk 10 ?_
 refine dn ?_
 refine d1 (h := id) 11 ?_
 refine so [1, 0] ?_
 obtain ⟨t32, hc, ho⟩ := bind_some ho
 refine SP.callA see (caps := []) _ fn136.h rfl rfl rfl rfl (fun w2 hP h1 sub s1 d1 ap hI => YP.ok _ _ _ _ _ _ _ _ _ _ _ _ _ _ _ _ _ _ _ _ _ _ _ _ _ hc w2 hP sub (ap.get 3 rfl) (ap.get 4 rfl) (ap.get 5 rfl) (ap.get 6 rfl) (ap.get 7 rfl) (ap.get 8 rfl) (ap.get 9 rfl) (ap.get 2 rfl) _ h1 s1 d1 hI) (SP.k1 fun v33 => ?_)
 clear hc
 refine gg ?_
 refine d1 12 ?_
 refine DA.ph 13 16 ?_
 refine DT.tk 13 ?_
 refine DT.tk 14 ?_
 refine DT.tk 15 ?_
 refine dn ?_
 refine d1 16 ?_
 refine dz ?_
 refine ci ho (fun ho => ?_) fun ho => ?_
 ·exact fin ho hr ▸ rt (sO [1])
 refine SP.val (Val.Uz see 1 rfl Tryz.underlying32 rfl rfl rfl) rfl rfl rfl (gg ?_)
 refine k1 XW.ok ho fun t35 ho v36 => ?_
 refine CP.W9 see 1 rfl ?_
 refine lo ho hr (fun z => ∃ l58 x59, z (.l1 t32 t35 l58 x59) [(0, .pointer (some ⟨b1, 0, none⟩)), (6, v33), (50, v36), (51, .int .i64 (t35.1.length : Int)), (52, .int .i64 x59)] [slO (kInt .i64) 3 v36 t35.1, arrK ZC b1 [X8, X9, Xa, .int .i64 Yc, Xb, YI, .int .u8 ZU, .bool ZX, .int .i64 ZY, .int .i64 Y0, .int .i64 Y1, YJ, YK] 200 l58 [] 122]) (fun _ z => ⟨t32.2, 0, z⟩) ?_ (sO [0, 1]) (hb := pe [slP (kInt .u8) v33 t32.1.1, slP Z5 X8 YS, slP Z5 X9 YT, slP Z8 Xa YR, slP (kInt .u8) Xb X0, slP (kInt .u8) YI Yy, slP Za YJ Yr, slP (kInt .u8) YK Yv, arrP ZV 0 tab0])
 rintro _ _ _ ⟨l58, x59, m60, o, _, _, ho, hr, h⟩
 refine en h ?_
 refine ci ho (fun ho => ?_) fun ho => ?_
 ·obtain ⟨x62, Z3I, ho⟩ := YG ho
  refine SP.indexW (fun w2 hw => slO.whole (St.own 0 rfl see.sub see.dj hw)) Tryz.underlying48 sz3.h Z3I.1 Z3I.2 rfl rfl rfl rfl (fun p61 Z5l => ?_)
  refine SP.val (Val.loadW1 (off := 0) (k := (kInt .i64)) (fun w2 hw => slO.whole (St.own 0 rfl see.sub see.dj hw)) Z3I.2 Z5l (fun _ _ e => by subst e; rfl) Tryz.underlying3 rfl rfl) rfl rfl rfl (gg ?_)
  obtain ⟨x63, Z0g, ho⟩ := YG ho
  refine SP.val (Val.indexK see 1 rfl Tryz.underlying120 sz119.h Z0g.1 Z0g.2 rfl rfl) rfl rfl rfl ?_
  refine SP.val (Val.assign rfl) rfl rfl rfl ?_
  refine SP.nil ?_
  refine QE.then ?_
  refine (CP.seq ?_)
  refine CP.seq ?_
  refine CP.region ?_
  refine SP.val (Val.move rfl) rfl rfl rfl ?_
  refine SP.val (Val.nilCheck rfl) rfl rfl rfl ?_
  refine SP.val (Val.fieldX Tryz.underlying119 rfl sz4.h rfl) rfl rfl rfl ?_
  refine SP.val (Val.loadK1 (j := x62) see 1 0 rfl Z0g.2 (fun _ _ ⟨v0_, e, p0_⟩ => by subst e; rfl) Tryz.underlying4 rfl rfl) rfl rfl rfl (gg ?_)
  obtain ⟨t69, Z5U, ho⟩ := bind_some ho
  refine SP.jn 8 [0, 6, 50, 51, 52, 12] 73 (.bool t69) ?_ ?_
  ·clear Z5U
   refine gg ?_
   refine cb ho (fun ho => ?_) fun ho => ?_
   ·exact fin ho hr ▸ rt (sO [1])
   refine sp 0 fun Z5V => ?_
   refine bd [.bool true, v33] ?_
   refine sp 0 fun Z5V => ?_
   refine SP.storeK (j := x62) (z0 := (⟨true, t32.1.1⟩ : Ze)) (vs := [.bool true, v33]) see 1 0 rfl Z0g.2 rfl (Vz rfl (Vz Z5V (rfl))) sz119.h rfl (fun a cs ap r => by obtain ⟨_, e, _⟩ := r; subst e; exact ⟨v33, rfl, (ap.get 0 rfl)⟩) rfl rfl rfl (gg ?_)
   exact lw ho hr (fun _ z => ⟨(l58.set x62.toNat (⟨true, t32.1.1⟩ : Ze)), (IntKind.i64.wrap (x59 + 1)), z⟩)
  refine bc (ht := id) 65 Z5U (fun hq65 ho => ?_) fun hq65 ho => ?_
  ·refine SP.val (Val.move rfl) rfl rfl rfl ?_
   refine SP.val (Val.nilCheck rfl) rfl rfl rfl ?_
   refine SP.val (Val.fieldX Tryz.underlying119 rfl sz31.h rfl) rfl rfl rfl ?_
   refine SP.loadKS (j := x62) see 1 1 rfl Z0g.2 (fun _ _ ⟨v0_, e, p0_⟩ => ⟨v0_, by subst e; rfl, p0_⟩) Tryz.underlying31 rfl rfl rfl (fun v66 => gg ?_)
   refine kv Zv.ok ho fun t68 ho => ?_
   obtain rfl := Option.some.inj ho
   exact QE.jn fun w2 hw => (St.selP [1, 2, 3, 4, 5, 6, 7, 8, 9] rfl hw)
  obtain rfl := Option.some.inj ho
  exact jn
 exact fin ho hr ▸ rt (sO [1])
def XD.f (s_0 : List Ze) : Option (List Ze) :=
  nilOr s_0 (some []) (if (([] : List Ze).length + s_0.length) * 32 ≤ 140737488355328 then (some (([] : List Ze) ++ s_0)) else none)
theorem XD.ok {s_0 Yz} (r) (ho : XD.f s_0 = some r) : Ok Tryz.prog 80 [Yz] [slP ZC Yz s_0] fun v => HO.ex fun u0 : Value => HO.pand (v = u0) (HO.seps [slO ZC 119 u0 r]) := by
 refine oq 8 Tryz.func80 fun w hV see pb => ?_
 refine SP.val (Val.eqlNP see 0 rfl Tryz.underlying67 rfl rfl) rfl rfl rfl (gg ?_)
 refine CP.have (fun w2 hw => slR.isNil (v := Yz) (St.pers 0 rfl see.sub see.dj hw)) (fun hnil => ?_)
 rcases Bool.eq_false_or_eq_true (nilB Yz) with hc | hc
 ·replace ho := Z4n ho (hnil hc)
  refine CP.condT rfl hc (gg ?_)
  exact Option.some.inj ho ▸ rt (fun _ h => St.selO [0] rfl rfl (St.addO (slO.nil ZC 119) h))
 replace ho := Z4o ho
 refine CP.condF rfl hc (gg ?_)
 refine SP.lit0 (k := ZC) Tryz.underlying67 inf119.h rfl rfl (fun v3 => gg ?_)
 refine ap 0 0 ho fun v5 ho => ?_
 exact Option.some.inj ho ▸ rt (sO [0])
inductive Yd.S where
  | start
  | l1 (x11 : Zb) (t1828 : List Int) (l2826 : List Ze) (x2827 : Int)
  | l2 (t2833 l2848 : List Ze) (x2850 : Int)
def Yd.F (m_0 : Z9) (k_1 : Int) : Yd.S → Option (Yd.S ⊕ ((List Ze) × Int))
  | .start => if ((decide (k_1 < 0)) || (decide (k_1 ≥ (m_0.Methods.length : Int)))) = true then (some (.inr ([], 2))) else ((elt m_0.Methods k_1).bind fun x11 => (Ve.f x11.Code).bind fun t20 => if t20 ≠ 0 then (some (.inr ([], t20))) else ((ZA.f [x11.Args, x11.Locals]).bind fun t1828 => (Yq.f x11.Code m_0.Zj m_0.Pool m_0.Methods m_0.Zd x11.Args x11.Locals x11.Result x11.Reads x11.Fuel x11.Stack x11.Heap x11.Code t1828).bind fun t2747 => if t2747 = true then (some (.inr ([], 100))) else ((elt (List.replicate 200 Ze.zero : List Ze) 0).bind fun x2749 => some (.inl (.l1 x11 t1828 ((List.replicate 200 Ze.zero : List Ze).set (0 : Int).toNat ({ x2749 with Reached := true } : Ze)) 0)))))
  | .l1 x11 t1828 l2826 x2827 => if x2827 < (x11.Code.length : Int) then ((Yo.f m_0.Zj m_0.Pool m_0.Methods m_0.Zd x11.Args x11.Locals x11.Result x11.Reads x11.Fuel x11.Stack x11.Heap x11.Code t1828 l2826 x2827).bind fun t2829 => if t2829.1 ≠ 0 then (some (.inr ([], t2829.1))) else (some (.inl (.l1 x11 t1828 t2829.2 (IntKind.i64.wrap (x2827 + 1)))))) else (if (0 : Int) ≤ (x11.Code.length : Int) ∧ (x11.Code.length : Int) ≤ (200 : Nat) then ((XD.f (l2826.take ((x11.Code.length : Int) : Int).toNat)).bind fun t2833 => some (.inl (.l2 t2833 t2833 0))) else none)
  | .l2 t2833 l2848 x2850 => if x2850 < (t2833.length : Int) then ((elt l2848 x2850).bind fun x2853 => (XG.f x2853.Kinds).bind fun t2857 => (elt l2848 x2850).bind fun x2861 => some (.inl (.l2 t2833 (l2848.set x2850.toNat ({ x2861 with Kinds := t2857 } : Ze)) (IntKind.i64.wrap (x2850 + 1))))) else (some (.inr (l2848, 0)))
def Yd.f (m_0 : Z9) (k_1 : Int) : Option ((List Ze) × Int) := runF (Yd.F m_0 k_1) .start
theorem Yd.ok {m_0 k_1 Z4 Z6 Z0} (r) (H : Yd.f m_0 k_1 = some r) : Ok Tryz.prog 35 [.agg #[Z4, Z6, Z0, .int .i64 m_0.Zd], .int .i64 k_1] [slP Z5 Z4 m_0.Zj, slP Z5 Z6 m_0.Pool, slP Z8 Z0 m_0.Methods, arrP ZV 0 tab0] fun v => HO.ex fun u0 : Value => HO.pand (v = .tuple #[u0, .int .i64 r.2]) (HO.seps [slO ZC 119 u0 r.1]) := by
 refine oq 90 Tryz.func35 fun w hV see pb => ?_
 obtain ⟨m0, o, ho, hr⟩ := rn H
 refine bx fun b4 => ?_
 refine SP.jn 6 [1, 2] 21 (.bool ((decide (k_1 < 0)) || (decide (k_1 ≥ (m_0.Methods.length : Int))))) ?_ ?_
 ·refine gg ?_
  refine cb ho (fun ho => ?_) fun ho => ?_
  ·exact fin ho hr ▸ rt (fun _ h => St.selO [0] rfl rfl (St.addO (slO.nil ZC 119) h))
  refine ip 2 ho fun x11 ho p9 => ?_
  refine Z8.load see 0 rfl Tryz.underlying34 rfl sz34.h rfl rfl rfl (fun v12 v14 v16 => ?_)
  refine al (h := fun _ => id) fun b18 => ?_
  refine sp (h := id) 0 fun Z1E => ?_
  refine sp (h := id) 1 fun Z1F => ?_
  refine sp 2 fun Z0c => ?_
  refine st 0 ?_
  refine kv Ve.ok ho fun t20 ho => ?_
  refine ci ho (fun ho => ?_) fun ho => ?_
  ·exact fin ho hr ▸ rt (fun _ h => St.selO [0] rfl rfl (St.addO (slO.nil ZC 119) h))
  refine dr ?_
  refine DA.ph 0 11 ?_
  refine tk 0 ?_
  refine tk 1 ?_
  refine DT.tk 2 ?_
  refine DT.tk 3 ?_
  refine DT.tk 4 ?_
  refine DT.tk 5 ?_
  obtain ⟨t1828, Z3J, ho⟩ := bind_some ho
  refine DT.list (l2 := #[true, true, true, true, true, true, false, false, false, false, false, false]) (by kernel_rfl) ?_
  refine DT.cut (ι := Value × Value × Nat × Nat) (fun z => [(6, .pointer (some ⟨b18, 0, none⟩)), (8, .pointer (some ⟨z.2.2.2, 0, none⟩)), (42, .pointer (some ⟨z.2.2.1, 0, none⟩))]) (fun z w2 => St w em hV [slP (kInt .u8) v12 x11.Args, slP (kInt .u8) v14 x11.Locals, slP Za v16 x11.Code, elP Z8 p9 x11, slP Z5 Z4 m_0.Zj, slP Z5 Z6 m_0.Pool, slP Z8 Z0 m_0.Methods, arrP ZV 0 tab0] [boxO z.2.2.2 [.pointer none] 116, arrK ZC z.2.2.1 [Z4, Z6, Z0, .int .i64 m_0.Zd, v12, v14, .int .u8 x11.Result, .bool x11.Reads, .int .i64 x11.Fuel, .int .i64 x11.Stack, .int .i64 x11.Heap, v16, z.2.1] 200 (List.replicate 200 Ze.zero : List Ze) [] 122, slO (kInt .u8) 5 z.2.1 t1828, slO (kSl (kInt .u8)) 31 z.1 [x11.Args, x11.Locals], boxO b18 [v12, v14, .int .u8 x11.Result, .bool x11.Reads, .int .i64 x11.Fuel, .int .i64 x11.Stack, .int .i64 x11.Heap, v16] 34, boxO b4 [Z4, Z6, Z0, .int .i64 m_0.Zd] 25] w2) 1 #[true, true, true, true, true, true, true, true, true, true, true, false] (fun z => ?_) (fun J2746 => ?_)
  ·obtain ⟨v1430, v1630, b2030, b2230⟩ := z
   refine dn ?_
   refine d1 11 ?_
   refine st 0 ?_
   refine dz ?_
   refine SP.val (Val.makeFunc (us := []) (vs := [.pointer (some ⟨b2230, 0, none⟩)]) rfl rfl) rfl rfl rfl ?_
   obtain ⟨t2747, hc, ho⟩ := bind_some ho
   refine SP.callVO see (caps := []) (.bool t2747) fn66.h rfl rfl rfl rfl (fun w2 hs => Yq.ok _ hc w2 (hp w2) (Sub.refl _) (aS ((St.pers 2 rfl see.sub see.dj hs)) (aS ((St.pers 4 rfl see.sub see.dj hs)) (aS ((St.pers 5 rfl see.sub see.dj hs)) (aS ((St.pers 6 rfl see.sub see.dj hs)) (aS ((St.pers 0 rfl see.sub see.dj hs)) (aS ((St.pers 1 rfl see.sub see.dj hs)) (aS ((St.pers 2 rfl see.sub see.dj hs)) (aS (slO.read (St.own 2 rfl see.sub see.dj hs) (Sub.refl _) (Sub.refl _)) (All.cons (arrK.preP (St.own 1 rfl see.sub see.dj hs)) (All.cons (St.own 0 rfl see.sub see.dj hs) (All.nil _)))))))))))) ?_
   clear hc
   refine gg ?_
   refine cb ho (fun ho => ?_) fun ho => ?_
   ·exact fin ho hr ▸ rt (fun _ h => St.selO [0] rfl rfl (St.addO (slO.nil ZC 119) h))
   obtain ⟨x2749, Z1h, ho⟩ := YG ho
   refine SP.val (Val.indexK see 1 rfl Tryz.underlying120 sz119.h Z1h.1 Z1h.2 rfl rfl) rfl rfl rfl ?_
   refine SP.val (Val.fieldX Tryz.underlying119 rfl sz4.h rfl) rfl rfl rfl ?_
   refine SP.storeK (j := 0) (z0 := ({ x2749 with Reached := true } : Ze)) (vs := [.bool true]) see 1 0 rfl Z1h.2 rfl (by rfl) sz4.h rfl (fun a cs ap r => by obtain ⟨v0_, e, p0_⟩ := r; subst e; exact ⟨v0_, rfl, p0_⟩) rfl rfl rfl (gg ?_)
   refine CP.W9 see 2 rfl ?_
   refine lo ho hr (fun z => ∃ l2826 x2827, z (.l1 x11 t1828 l2826 x2827) [(6, .pointer (some ⟨b18, 0, none⟩)), (8, .pointer (some ⟨b2230, 0, none⟩)), (54, .int .i64 (x11.Code.length : Int)), (55, .int .i64 x2827)] [boxO b2230 [.pointer (some ⟨b2030, 0, none⟩)] 116, arrK ZC b2030 [Z4, Z6, Z0, .int .i64 m_0.Zd, v12, v14, .int .u8 x11.Result, .bool x11.Reads, .int .i64 x11.Fuel, .int .i64 x11.Stack, .int .i64 x11.Heap, v16, v1630] 200 l2826 [] 122, boxO b18 [v12, v14, .int .u8 x11.Result, .bool x11.Reads, .int .i64 x11.Fuel, .int .i64 x11.Stack, .int .i64 x11.Heap, v16] 34]) (fun _ z => ⟨((List.replicate 200 Ze.zero : List Ze).set (0 : Int).toNat ({ x2749 with Reached := true } : Ze)), 0, z⟩) ?_ (sO [0, 1, 3]) (hb := pe [slP (kInt .u8) v1630 t1828, slP (kInt .u8) v12 x11.Args, slP (kInt .u8) v14 x11.Locals, slP Za v16 x11.Code, slP Z5 Z4 m_0.Zj, slP Z5 Z6 m_0.Pool, slP Z8 Z0 m_0.Methods, arrP ZV 0 tab0])
   rintro _ _ _ ⟨l2826, x2827, m2828, o, _, _, ho, hr, h⟩
   refine en h ?_
   refine ci ho (fun ho => ?_) fun ho => ?_
   ·refine so [1, 0, 2] ?_
    obtain ⟨t2829, hc, ho⟩ := bind_some ho
    refine SP.callA see (caps := []) _ fn79.h rfl rfl rfl rfl (fun w2 hP h1 sub s1 d1 ap hI => Yo.ok _ _ _ _ _ _ _ _ _ _ _ _ _ _ _ _ _ _ _ _ _ _ _ hc w2 hP sub (ap.get 4 rfl) (ap.get 5 rfl) (ap.get 6 rfl) (ap.get 1 rfl) (ap.get 2 rfl) (ap.get 3 rfl) (ap.get 0 rfl) (ap.get 7 rfl) _ h1 s1 d1 hI) (SP.k0 ?_)
    clear hc
    refine gg ?_
    refine ci ho (fun ho => ?_) fun ho => ?_
    ·exact fin ho hr ▸ rt (fun _ h => St.selO [0] rfl rfl (St.addO (slO.nil ZC 119) h))
    exact lw ho hr (fun _ z => ⟨t2829.2, (IntKind.i64.wrap (x2827 + 1)), z⟩) (sO [1, 0, 2])
   refine dr ?_
   refine DA.ph 0 6 ?_
   refine DT.tk 0 ?_
   refine DT.tk 1 ?_
   refine DT.tk 2 ?_
   refine DT.tk 3 ?_
   refine DT.tk 4 ?_
   refine DT.tk 5 ?_
   refine dn ?_
   refine d1 6 ?_
   obtain ⟨hz, ho⟩ := X6 ho
   refine SP.sliceK see 1 rfl Tryz.underlying120 sz119.h rfl rfl rfl hz rfl rfl (fun v2831 => ?_)
   clear hz
   refine gg ?_
   refine d1 7 ?_
   refine k1 XD.ok ho fun t2833 ho v2834 => ?_
   refine d1 8 ?_
   refine dz ?_
   refine lo ho hr (fun z => ∃ l2848 x2850 v2849, z (.l2 t2833 l2848 x2850) [(11, v2849), (74, .int .i64 (t2833.length : Int)), (75, .int .i64 x2850)] [slO ZC 119 v2849 l2848]) (fun _ z => ⟨t2833, 0, v2834, z⟩) ?_ (sO [0]) (hb := pe [arrP ZV 0 tab0])
   rintro _ _ _ ⟨l2848, x2850, v2849, m2851, o, _, _, ho, hr, h⟩
   refine en h ?_
   refine ci ho (fun ho => ?_) fun ho => ?_
   ·obtain ⟨x2853, Z1i, ho⟩ := YG ho
    refine SP.indexW (fun w2 hw => slO.whole (St.own 0 rfl see.sub see.dj hw)) Tryz.underlying67 sz119.h Z1i.1 Z1i.2 rfl rfl rfl rfl (fun p2852 Z88 => ?_)
    refine SP.fieldO Z88 Tryz.underlying119 rfl sz31.h rfl rfl rfl (fun p2854 Z89 => ?_)
    refine SP.loadOS (j := x2850) see 0 1 rfl Z1i.2 Z89 (fun _ _ ⟨v0_, e, p0_⟩ => ⟨v0_, by subst e; rfl, p0_⟩) Tryz.underlying31 rfl rfl rfl (fun v2855 => ?_)
    refine k1 XG.ok ho fun t2857 ho v2858 => ?_
    obtain ⟨x2861, Z1j, ho⟩ := YG ho
    refine SP.indexW (fun w2 hw => slO.whole (St.own 1 rfl see.sub see.dj hw)) Tryz.underlying67 sz119.h Z1j.1 Z1j.2 rfl rfl rfl rfl (fun p2860 Z8a => ?_)
    refine SP.fieldO Z8a Tryz.underlying119 rfl sz31.h rfl rfl rfl (fun p2862 Z8b => ?_)
    refine fz (h := id) 0 ?_
    refine sp 0 fun Z3K => ?_
    refine SP.storeO (z0 := ({ x2861 with Kinds := t2857 } : Ze)) (off := 1) (vs := [v2858]) see 0 rfl Z1j.2 Z8b (Z01 Z3K) (Vz Z3K (rfl)) sz31.h rfl (fun a cs ap r => by obtain ⟨v0_, e, p0_⟩ := r; subst e; exact ⟨v2858, rfl, ap.get 0 rfl⟩) rfl rfl rfl (gg ?_)
    exact lw ho hr (fun _ z => ⟨(l2848.set x2850.toNat ({ x2861 with Kinds := t2857 } : Ze)), (IntKind.i64.wrap (x2850 + 1)), v2849, z⟩)
   exact fin ho hr ▸ rt (sO [0])
  refine DT.cut (ι := Value × Value × Nat) (fun z => [(6, .pointer (some ⟨b18, 0, none⟩)), (42, .pointer (some ⟨z.2.2, 0, none⟩))]) (fun z w2 => St w em hV [slP (kInt .u8) v12 x11.Args, slP (kInt .u8) v14 x11.Locals, slP Za v16 x11.Code, elP Z8 p9 x11, slP Z5 Z4 m_0.Zj, slP Z5 Z6 m_0.Pool, slP Z8 Z0 m_0.Methods, arrP ZV 0 tab0] [arrK ZC z.2.2 [Z4, Z6, Z0, .int .i64 m_0.Zd, v12, v14, .int .u8 x11.Result, .bool x11.Reads, .int .i64 x11.Fuel, .int .i64 x11.Stack, .int .i64 x11.Heap, v16, z.2.1] 200 (List.replicate 200 Ze.zero : List Ze) [] 122, slO (kInt .u8) 5 z.2.1 t1828, slO (kSl (kInt .u8)) 31 z.1 [x11.Args, x11.Locals], boxO b18 [v12, v14, .int .u8 x11.Result, .bool x11.Reads, .int .i64 x11.Fuel, .int .i64 x11.Stack, .int .i64 x11.Heap, v16] 34, boxO b4 [Z4, Z6, Z0, .int .i64 m_0.Zd] 25] w2) 2 #[true, true, true, true, true, true, true, true, true, true, false, false] (fun z => ?_) (fun J2868 => ?_)
  ·obtain ⟨v1430, v1630, b2030⟩ := z
   refine DT.one 10 rfl (by kernel_rfl) rfl ?_
   refine al fun b2230 => ?_
   refine QE.atT (fun w2 hw => (St.selO [4, 5] rfl rfl hw)) ?_
   refine DT.list (l2 := #[true, true, true, true, true, true, true, true, true, true, true, false]) (by kernel_rfl) ?_
   exact DT.weak (by exact ⟨rfl, rfl, rfl, trivial⟩) (by exact fun w2 hw => hw) (J2746 (v1430, v1630, b2030, b2230))
  refine DT.cut (ι := Value × Value × Nat) (fun z => [(6, .pointer (some ⟨b18, 0, none⟩)), (8, .pointer (some ⟨z.2.2, 0, none⟩)), (41, .agg (([Z4, Z6, Z0, .int .i64 m_0.Zd, v12, v14, .int .u8 x11.Result, .bool x11.Reads, .int .i64 x11.Fuel, .int .i64 x11.Stack, .int .i64 x11.Heap, v16, z.2.1] ++ UF)).toArray)]) (fun z w2 => St w em hV [slP (kInt .u8) v12 x11.Args, slP (kInt .u8) v14 x11.Locals, slP Za v16 x11.Code, elP Z8 p9 x11, slP Z5 Z4 m_0.Zj, slP Z5 Z6 m_0.Pool, slP Z8 Z0 m_0.Methods, arrP ZV 0 tab0] [boxO z.2.2 [.pointer none] 116, slO (kInt .u8) 5 z.2.1 t1828, slO (kSl (kInt .u8)) 31 z.1 [x11.Args, x11.Locals], boxO b18 [v12, v14, .int .u8 x11.Result, .bool x11.Reads, .int .i64 x11.Fuel, .int .i64 x11.Stack, .int .i64 x11.Heap, v16] 34, boxO b4 [Z4, Z6, Z0, .int .i64 m_0.Zd] 25] w2) 2 #[true, true, true, true, true, true, true, true, true, false, true, false] (fun z => ?_) (fun J2869 => ?_)
  ·obtain ⟨v1430, v1630, b2230⟩ := z
   refine DT.one 9 rfl (by kernel_rfl) rfl ?_
   refine bx (h := fun _ => id) fun b2030 => ?_
   refine SP.imp (fun w2 hw => St.arrK (k := ZC) 0 rfl (List.replicate 200 Ze.zero : List Ze) [Z4, Z6, Z0, .int .i64 m_0.Zd, v12, v14, .int .u8 x11.Result, .bool x11.Reads, .int .i64 x11.Fuel, .int .i64 x11.Stack, .int .i64 x11.Heap, v16, v1630] UF [] (Flat.rep (k := ZC) (z := [.bool false, (.slice none 0 0)]) (x := Ze.zero) ⟨_, rfl, slP.nil _ _⟩ 200) (congrArg _ (List.append_nil _).symm) List.length_replicate hw) (gg ?_)
   refine QE.atT (fun w2 hw => (St.selO [4, 5] rfl rfl hw)) ?_
   refine DT.list (l2 := #[true, true, true, true, true, true, true, true, true, true, true, false]) (by kernel_rfl) ?_
   exact DT.weak (by exact ⟨rfl, rfl, rfl, trivial⟩) (by exact fun w2 hw => (St.selO [1, 0, 2, 3, 4, 5] rfl rfl hw)) (J2746 (v1430, v1630, b2030, b2230))
  refine DT.cut (ι := Value × Value) (fun z => [(6, .pointer (some ⟨b18, 0, none⟩)), (41, .agg (([Z4, Z6, Z0, .int .i64 m_0.Zd, v12, v14, .int .u8 x11.Result, .bool x11.Reads, .int .i64 x11.Fuel, .int .i64 x11.Stack, .int .i64 x11.Heap, v16, z.2] ++ UF)).toArray)]) (fun z w2 => St w em hV [slP (kInt .u8) v12 x11.Args, slP (kInt .u8) v14 x11.Locals, slP Za v16 x11.Code, elP Z8 p9 x11, slP Z5 Z4 m_0.Zj, slP Z5 Z6 m_0.Pool, slP Z8 Z0 m_0.Methods, arrP ZV 0 tab0] [slO (kInt .u8) 5 z.2 t1828, slO (kSl (kInt .u8)) 31 z.1 [x11.Args, x11.Locals], boxO b18 [v12, v14, .int .u8 x11.Result, .bool x11.Reads, .int .i64 x11.Fuel, .int .i64 x11.Stack, .int .i64 x11.Heap, v16] 34, boxO b4 [Z4, Z6, Z0, .int .i64 m_0.Zd] 25] w2) 3 #[true, true, true, true, true, true, true, true, true, false, false, false] (fun z => ?_) (fun J2870 => ?_)
  ·obtain ⟨v1430, v1630⟩ := z
   refine DT.any 9 [10] (by kernel_rfl) ⟨⟨_, rfl, rfl, ?_⟩, ⟨_, rfl, rfl, ?_⟩, trivial⟩
   ·refine bx (h := fun _ => id) fun b2030 => ?_
    refine SP.imp (fun w2 hw => St.arrK (k := ZC) 0 rfl (List.replicate 200 Ze.zero : List Ze) [Z4, Z6, Z0, .int .i64 m_0.Zd, v12, v14, .int .u8 x11.Result, .bool x11.Reads, .int .i64 x11.Fuel, .int .i64 x11.Stack, .int .i64 x11.Heap, v16, v1630] UF [] (Flat.rep (k := ZC) (z := [.bool false, (.slice none 0 0)]) (x := Ze.zero) ⟨_, rfl, slP.nil _ _⟩ 200) (congrArg _ (List.append_nil _).symm) List.length_replicate hw) (gg ?_)
    refine QE.atT (fun w2 hw => (St.selO [3, 4] rfl rfl hw)) ?_
    refine DT.list (l2 := #[true, true, true, true, true, true, true, true, true, true, false, false]) (by kernel_rfl) ?_
    exact DT.weak (by exact ⟨rfl, rfl, trivial⟩) (by exact fun w2 hw => hw) (J2868 (v1430, v1630, b2030))
   refine al fun b2230 => ?_
   refine QE.atT (fun w2 hw => (St.selO [3, 4] rfl rfl hw)) ?_
   refine DT.list (l2 := #[true, true, true, true, true, true, true, true, true, false, true, false]) (by kernel_rfl) ?_
   exact DT.weak (by exact ⟨rfl, rfl, rfl, trivial⟩) (by exact fun w2 hw => hw) (J2869 (v1430, v1630, b2230))
  refine DT.cut (ι := Value × Value × Nat) (fun z => [(6, .pointer (some ⟨b18, 0, none⟩)), (8, .pointer (some ⟨z.2.2, 0, none⟩)), (33, .agg #[Z4, Z6, Z0, .int .i64 m_0.Zd]), (34, .agg #[v12, v14, .int .u8 x11.Result, .bool x11.Reads, .int .i64 x11.Fuel, .int .i64 x11.Stack, .int .i64 x11.Heap, v16]), (40, z.2.1)]) (fun z w2 => St w em hV [slP (kInt .u8) v12 x11.Args, slP (kInt .u8) v14 x11.Locals, slP Za v16 x11.Code, elP Z8 p9 x11, slP Z5 Z4 m_0.Zj, slP Z5 Z6 m_0.Pool, slP Z8 Z0 m_0.Methods, arrP ZV 0 tab0] [boxO z.2.2 [.pointer none] 116, slO (kInt .u8) 5 z.2.1 t1828, slO (kSl (kInt .u8)) 31 z.1 [x11.Args, x11.Locals], boxO b18 [v12, v14, .int .u8 x11.Result, .bool x11.Reads, .int .i64 x11.Fuel, .int .i64 x11.Stack, .int .i64 x11.Heap, v16] 34, boxO b4 [Z4, Z6, Z0, .int .i64 m_0.Zd] 25] w2) 3 #[true, true, true, true, true, true, true, true, false, false, true, false] (fun z => ?_) (fun J2875 => ?_)
  ·obtain ⟨v1430, v1630, b2230⟩ := z
   refine DT.one 8 rfl (by kernel_rfl) rfl ?_
   refine sh 1 fun Z6S => ?_
   refine bd ([Z4, Z6, Z0, .int .i64 m_0.Zd, v12, v14, .int .u8 x11.Result, .bool x11.Reads, .int .i64 x11.Fuel, .int .i64 x11.Stack, .int .i64 x11.Heap, v16, v1630] ++ UF) ?_
   refine QE.atT (fun w2 hw => (St.selO [3, 4] rfl rfl hw)) ?_
   refine DT.list (l2 := #[true, true, true, true, true, true, true, true, true, false, true, false]) (by kernel_rfl) ?_
   exact DT.weak (by exact ⟨rfl, rfl, rfl, trivial⟩) (by exact fun w2 hw => hw) (J2869 (v1430, v1630, b2230))
  refine DT.cut (ι := Value × Value) (fun z => [(6, .pointer (some ⟨b18, 0, none⟩)), (33, .agg #[Z4, Z6, Z0, .int .i64 m_0.Zd]), (34, .agg #[v12, v14, .int .u8 x11.Result, .bool x11.Reads, .int .i64 x11.Fuel, .int .i64 x11.Stack, .int .i64 x11.Heap, v16]), (40, z.2)]) (fun z w2 => St w em hV [slP (kInt .u8) v12 x11.Args, slP (kInt .u8) v14 x11.Locals, slP Za v16 x11.Code, elP Z8 p9 x11, slP Z5 Z4 m_0.Zj, slP Z5 Z6 m_0.Pool, slP Z8 Z0 m_0.Methods, arrP ZV 0 tab0] [slO (kInt .u8) 5 z.2 t1828, slO (kSl (kInt .u8)) 31 z.1 [x11.Args, x11.Locals], boxO b18 [v12, v14, .int .u8 x11.Result, .bool x11.Reads, .int .i64 x11.Fuel, .int .i64 x11.Stack, .int .i64 x11.Heap, v16] 34, boxO b4 [Z4, Z6, Z0, .int .i64 m_0.Zd] 25] w2) 4 #[true, true, true, true, true, true, true, true, false, false, false, false] (fun z => ?_) (fun J2878 => ?_)
  ·obtain ⟨v1430, v1630⟩ := z
   refine DT.any 8 [10] (by kernel_rfl) ⟨⟨_, rfl, rfl, ?_⟩, ⟨_, rfl, rfl, ?_⟩, trivial⟩
   ·refine sh 0 fun Z6S => ?_
    refine bd ([Z4, Z6, Z0, .int .i64 m_0.Zd, v12, v14, .int .u8 x11.Result, .bool x11.Reads, .int .i64 x11.Fuel, .int .i64 x11.Stack, .int .i64 x11.Heap, v16, v1630] ++ UF) ?_
    refine QE.atT (fun w2 hw => (St.selO [2, 3] rfl rfl hw)) ?_
    refine DT.list (l2 := #[true, true, true, true, true, true, true, true, true, false, false, false]) (by kernel_rfl) ?_
    exact DT.weak (by exact ⟨rfl, rfl, trivial⟩) (by exact fun w2 hw => hw) (J2870 (v1430, v1630))
   refine al fun b2230 => ?_
   refine QE.atT (fun w2 hw => (St.selO [3, 4] rfl rfl hw)) ?_
   refine DT.list (l2 := #[true, true, true, true, true, true, true, true, false, false, true, false]) (by kernel_rfl) ?_
   exact DT.weak (by exact ⟨rfl, rfl, rfl, rfl, rfl, trivial⟩) (by exact fun w2 hw => hw) (J2875 (v1430, v1630, b2230))
  refine DT.cut (ι := Value × Nat) (fun z => [(6, .pointer (some ⟨b18, 0, none⟩)), (8, .pointer (some ⟨z.2, 0, none⟩)), (33, .agg #[Z4, Z6, Z0, .int .i64 m_0.Zd]), (34, .agg #[v12, v14, .int .u8 x11.Result, .bool x11.Reads, .int .i64 x11.Fuel, .int .i64 x11.Stack, .int .i64 x11.Heap, v16]), (39, z.1)]) (fun z w2 => St w em hV [slP (kInt .u8) v12 x11.Args, slP (kInt .u8) v14 x11.Locals, slP Za v16 x11.Code, elP Z8 p9 x11, slP Z5 Z4 m_0.Zj, slP Z5 Z6 m_0.Pool, slP Z8 Z0 m_0.Methods, arrP ZV 0 tab0] [boxO z.2 [.pointer none] 116, slO (kSl (kInt .u8)) 31 z.1 [x11.Args, x11.Locals], boxO b18 [v12, v14, .int .u8 x11.Result, .bool x11.Reads, .int .i64 x11.Fuel, .int .i64 x11.Stack, .int .i64 x11.Heap, v16] 34, boxO b4 [Z4, Z6, Z0, .int .i64 m_0.Zd] 25] w2) 4 #[true, true, true, true, true, true, true, false, false, false, true, false] (fun z => ?_) (fun J2883 => ?_)
  ·obtain ⟨v1430, b2230⟩ := z
   refine DT.one 7 rfl (by kernel_rfl) rfl ?_
   refine SP.callKO see (caps := []) _ fn76.h rfl rfl rfl rfl (fun w2 hs => ZA.ok (WW := [x11.Args, x11.Locals]) _ Z3J w2 (hp w2) (Sub.refl _) (aS (slO.read (St.own 1 rfl see.sub see.dj hs) (Sub.refl _) (Sub.refl _)) (All.nil _))) (fun v a a2 b ⟨v1630, e, h⟩ => ⟨v1630, e, (Sep.fcons (fun _ => slO.flip (fun _ _ _ _ h => h)) (fun _ => Sep.fnil)) h⟩) (SP.k1 fun v1630 => gg ?_)
   refine QE.atT (fun w2 hw => (St.selO [3, 4] rfl rfl hw)) ?_
   refine DT.list (l2 := #[true, true, true, true, true, true, true, true, false, false, true, false]) (by kernel_rfl) ?_
   exact DT.weak (by exact ⟨rfl, rfl, rfl, rfl, rfl, trivial⟩) (by exact fun w2 hw => (St.selO [1, 0, 2, 3, 4] rfl rfl hw)) (J2875 (v1430, v1630, b2230))
  refine DT.cut (ι := Value) (fun z => [(6, .pointer (some ⟨b18, 0, none⟩)), (33, .agg #[Z4, Z6, Z0, .int .i64 m_0.Zd]), (34, .agg #[v12, v14, .int .u8 x11.Result, .bool x11.Reads, .int .i64 x11.Fuel, .int .i64 x11.Stack, .int .i64 x11.Heap, v16]), (39, z)]) (fun z w2 => St w em hV [slP (kInt .u8) v12 x11.Args, slP (kInt .u8) v14 x11.Locals, slP Za v16 x11.Code, elP Z8 p9 x11, slP Z5 Z4 m_0.Zj, slP Z5 Z6 m_0.Pool, slP Z8 Z0 m_0.Methods, arrP ZV 0 tab0] [slO (kSl (kInt .u8)) 31 z [x11.Args, x11.Locals], boxO b18 [v12, v14, .int .u8 x11.Result, .bool x11.Reads, .int .i64 x11.Fuel, .int .i64 x11.Stack, .int .i64 x11.Heap, v16] 34, boxO b4 [Z4, Z6, Z0, .int .i64 m_0.Zd] 25] w2) 5 #[true, true, true, true, true, true, true, false, false, false, false, false] (fun z => ?_) (fun J2884 => ?_)
  ·rename Value => v1430
   refine DT.any 7 [10] (by kernel_rfl) ⟨⟨_, rfl, rfl, ?_⟩, ⟨_, rfl, rfl, ?_⟩, trivial⟩
   ·refine SP.callKO see (caps := []) _ fn76.h rfl rfl rfl rfl (fun w2 hs => ZA.ok (WW := [x11.Args, x11.Locals]) _ Z3J w2 (hp w2) (Sub.refl _) (aS (slO.read (St.own 0 rfl see.sub see.dj hs) (Sub.refl _) (Sub.refl _)) (All.nil _))) (fun v a a2 b ⟨v1630, e, h⟩ => ⟨v1630, e, (Sep.fcons (fun _ => slO.flip (fun _ _ _ _ h => h)) (fun _ => Sep.fnil)) h⟩) (SP.k1 fun v1630 => gg ?_)
    refine QE.atT (fun w2 hw => (St.selO [2, 3] rfl rfl hw)) ?_
    refine DT.list (l2 := #[true, true, true, true, true, true, true, true, false, false, false, false]) (by kernel_rfl) ?_
    exact DT.weak (by exact ⟨rfl, rfl, rfl, rfl, trivial⟩) (by exact fun w2 hw => hw) (J2878 (v1430, v1630))
   refine al fun b2230 => ?_
   refine QE.atT (fun w2 hw => (St.selO [2, 3] rfl rfl hw)) ?_
   refine DT.list (l2 := #[true, true, true, true, true, true, true, false, false, false, true, false]) (by kernel_rfl) ?_
   exact DT.weak (by exact ⟨rfl, rfl, rfl, rfl, rfl, trivial⟩) (by exact fun w2 hw => hw) (J2883 (v1430, b2230))
  refine DT.cut (ι := Nat) (fun z => [(6, .pointer (some ⟨b18, 0, none⟩)), (8, .pointer (some ⟨z, 0, none⟩)), (33, .agg #[Z4, Z6, Z0, .int .i64 m_0.Zd]), (34, .agg #[v12, v14, .int .u8 x11.Result, .bool x11.Reads, .int .i64 x11.Fuel, .int .i64 x11.Stack, .int .i64 x11.Heap, v16]), (36, v12), (38, v14)]) (fun z w2 => St w em hV [slP (kInt .u8) v12 x11.Args, slP (kInt .u8) v14 x11.Locals, slP Za v16 x11.Code, elP Z8 p9 x11, slP Z5 Z4 m_0.Zj, slP Z5 Z6 m_0.Pool, slP Z8 Z0 m_0.Methods, arrP ZV 0 tab0] [boxO z [.pointer none] 116, boxO b18 [v12, v14, .int .u8 x11.Result, .bool x11.Reads, .int .i64 x11.Fuel, .int .i64 x11.Stack, .int .i64 x11.Heap, v16] 34, boxO b4 [Z4, Z6, Z0, .int .i64 m_0.Zd] 25] w2) 5 #[true, true, true, true, true, true, false, false, false, false, true, false] (fun z => ?_) (fun J2888 => ?_)
  ·rename Nat => b2230
   refine DT.one 6 rfl (by kernel_rfl) rfl ?_
   refine SP.litS (k := (kSl (kInt .u8))) (xs := [x11.Args, x11.Locals]) (vs := [v12, v14]) Tryz.underlying191 inf31.h rfl rfl rfl rfl rfl rfl (fun _ ap => ⟨slR.cells1 (ap.get 0 rfl), slR.cells1 (ap.get 1 rfl), trivial⟩) (fun _ ap => ⟨[v12], _, rfl, ⟨_, rfl, ap.get 0 rfl⟩, ⟨[v14], _, rfl, ⟨_, rfl, ap.get 1 rfl⟩, rfl⟩⟩) rfl rfl rfl (fun v1430 => gg ?_)
   refine QE.atT (fun w2 hw => (St.selO [2, 3] rfl rfl hw)) ?_
   refine DT.list (l2 := #[true, true, true, true, true, true, true, false, false, false, true, false]) (by kernel_rfl) ?_
   exact DT.weak (by exact ⟨rfl, rfl, rfl, rfl, rfl, trivial⟩) (by exact fun w2 hw => (St.selO [1, 0, 2, 3] rfl rfl hw)) (J2883 (v1430, b2230))
  refine DT.any 6 [10] (by kernel_rfl) ⟨⟨_, rfl, rfl, ?_⟩, ⟨_, rfl, rfl, ?_⟩, trivial⟩
  ·refine SP.litS (k := (kSl (kInt .u8))) (xs := [x11.Args, x11.Locals]) (vs := [v12, v14]) Tryz.underlying191 inf31.h rfl rfl rfl rfl rfl rfl (fun _ ap => ⟨slR.cells1 (ap.get 0 rfl), slR.cells1 (ap.get 1 rfl), trivial⟩) (fun _ ap => ⟨[v12], _, rfl, ⟨_, rfl, ap.get 0 rfl⟩, ⟨[v14], _, rfl, ⟨_, rfl, ap.get 1 rfl⟩, rfl⟩⟩) rfl rfl rfl (fun v1430 => gg ?_)
   refine QE.atT (fun w2 hw => (St.selO [1, 2] rfl rfl hw)) ?_
   refine DT.list (l2 := #[true, true, true, true, true, true, true, false, false, false, false, false]) (by kernel_rfl) ?_
   exact DT.weak (by exact ⟨rfl, rfl, rfl, rfl, trivial⟩) (by exact fun w2 hw => hw) (J2884 v1430)
  refine al fun b2230 => ?_
  refine QE.atT (fun w2 hw => (St.selO [1, 2] rfl rfl hw)) ?_
  refine DT.list (l2 := #[true, true, true, true, true, true, false, false, false, false, true, false]) (by kernel_rfl) ?_
  exact DT.weak (by exact ⟨rfl, rfl, rfl, rfl, rfl, rfl, trivial⟩) (by exact fun w2 hw => hw) (J2888 b2230)
 refine bb 15 (fun hq7 => ?_) fun hq7 => ?_
 ·exact jb (WL hq7)
 exact jb (WM hq7 rfl)
def V3.f (m_0 : Z9) (k_1 : Int) : Option Int :=
  (Yd.f m_0 k_1).bind fun t6 => some t6.2
theorem V3.ok {m_0 k_1 Z4 Z6 Z0} (r) (ho : V3.f m_0 k_1 = some r) : Ok Tryz.prog 13 [.agg #[Z4, Z6, Z0, .int .i64 m_0.Zd], .int .i64 k_1] [slP Z5 Z4 m_0.Zj, slP Z5 Z6 m_0.Pool, slP Z8 Z0 m_0.Methods, arrP ZV 0 tab0] fun v => HO.pure (v = .int .i64 r) := by
 refine oq 14 Tryz.func13 fun w hV see pb => ?_
 refine bx fun b4 => ?_
 refine k1 Yd.ok ho fun t6 ho v7 => ?_
 exact Option.some.inj ho ▸ rt
inductive XH.S where
  | start
  | l1 (x8 : Int)
def XH.F (m_0 : Z9) : XH.S → Option (XH.S ⊕ (Int × Int))
  | .start => some (.inl (.l1 0))
  | .l1 x8 => if x8 < (m_0.Methods.length : Int) then ((V3.f m_0 x8).bind fun t10 => if t10 ≠ 0 then (some (.inr (x8, t10))) else (some (.inl (.l1 (IntKind.i64.wrap (x8 + 1)))))) else (some (.inr ((-1), 0)))
def XH.f (m_0 : Z9) : Option (Int × Int) := runF (XH.F m_0) .start
theorem XH.ok {m_0 Z4 Z6 Z0} (r) (H : XH.f m_0 = some r) : Ok Tryz.prog 42 [.agg #[Z4, Z6, Z0, .int .i64 m_0.Zd]] [slP Z5 Z4 m_0.Zj, slP Z5 Z6 m_0.Pool, slP Z8 Z0 m_0.Methods, arrP ZV 0 tab0] fun v => HO.pure (v = .tuple #[.int .i64 r.1, .int .i64 r.2]) := by
 refine oq 20 Tryz.func42 fun w hV see pb => ?_
 obtain ⟨m0, o, ho, hr⟩ := rn H
 refine bx fun b4 => ?_
 refine lo ho hr (fun z => ∃ x8, z (.l1 x8) [(1, .pointer (some ⟨b4, 0, none⟩)), (8, .int .i64 (m_0.Methods.length : Int)), (9, .int .i64 x8)] [boxO b4 [Z4, Z6, Z0, .int .i64 m_0.Zd] 25]) (fun _ z => ⟨0, z⟩) ?_
 rintro _ _ _ ⟨x8, m9, o, _, _, ho, hr, h⟩
 refine en h ?_
 refine ci ho (fun ho => ?_) fun ho => ?_
 ·refine kv V3.ok ho fun t10 ho => ?_
  refine ci ho (fun ho => ?_) fun ho => ?_
  ·exact fin ho hr ▸ rt
  exact lw ho hr (fun _ z => ⟨(IntKind.i64.wrap (x8 + 1)), z⟩)
 exact fin ho hr ▸ rt
def Tz.f (m_0 : Z9) : Option Int :=
  (XH.f m_0).bind fun t6 => some t6.2
theorem Tz.ok {m_0 Z4 Z6 Z0} (r) (ho : Tz.f m_0 = some r) : Ok Tryz.prog 143 [.agg #[Z4, Z6, Z0, .int .i64 m_0.Zd]] [slP Z5 Z4 m_0.Zj, slP Z5 Z6 m_0.Pool, slP Z8 Z0 m_0.Methods, arrP ZV 0 tab0] fun v => HO.pure (v = .int .i64 r) := by
 refine oq 11 Tryz.func143 fun w hV see pb => ?_
 refine bx fun b4 => ?_
 refine kv XH.ok ho fun t6 ho => ?_
 exact Option.some.inj ho ▸ rt
def TQ.f (m_0 : Z9) (k_1 : Int) : Option Unit :=
  some ()
theorem TQ.ok {m_0 k_1 Z4 Z6 Z0} (r) (ho : TQ.f m_0 k_1 = some r) : Ok Tryz.prog 47 [.agg #[Z4, Z6, Z0, .int .i64 m_0.Zd], .int .i64 k_1] [slP Z5 Z4 m_0.Zj, slP Z5 Z6 m_0.Pool, slP Z8 Z0 m_0.Methods] fun v => HO.ex fun b0_ : Nat => HO.ex fun b1_ : Nat => HO.pand (v = .func (.func 95) #[] #[.pointer (some ⟨b0_, 0, none⟩), .pointer (some ⟨b1_, 0, none⟩)]) (HO.seps [HO.ofP (boxP b0_ [Z4, Z6, Z0, .int .i64 m_0.Zd] 25), HO.ofP (boxP b1_ [.int .i64 k_1] 3)]) := by
 refine oq 6 Tryz.func47 fun w hV see pb => ?_
 refine bx fun b4 => ?_
 refine bx fun b6 => ?_
 refine SP.val (Val.makeFunc (us := []) (vs := [.pointer (some ⟨b4, 0, none⟩), .pointer (some ⟨b6, 0, none⟩)]) rfl rfl) rfl rfl rfl (gg ?_)
 refine QE.Ky see 1 rfl ?_
 refine QE.Ky see 0 rfl ?_
 exact QE.rt (fun _ h => h) (hk := fun a b p s => ⟨_, _, rfl, ⟨em, em, Dj.Yw _, Sub.em _, Sub.em _, p.get 1 rfl, ⟨em, em, Dj.Yw _, Sub.em _, Sub.em _, p.get 0 rfl, trivial⟩⟩⟩)
inductive Xj.S (S_ : Type) where
  | start
  | l1 (x15 : Zb) (s30 : S_) (x31 : Int)
def Xj.F {S_ : Type} (Y : S_ → Int → Option (S_ × Bool)) (y0 : S_) (Ta Tc : List Zn) (TP : List Zb) (TY JL : Int) : Xj.S S_ → Option (Xj.S S_ ⊕ S_)
  | .start => (elt TP JL).bind fun x15 => some (.inl (.l1 x15 y0 0))
  | .l1 x15 s30 x31 => if x31 < (x15.Code.length : Int) then ((elt x15.Code x31).bind fun x35 => (if x35.Op = 30 then ((Y s30 x35.A).bind fun y40 => some (!y40.2, y40.1)) else (some (false, s30))).bind fun t41 => if t41.1 = true then (some (.inr t41.2)) else (some (.inl (.l1 x15 t41.2 (IntKind.i64.wrap (x31 + 1)))))) else (some (.inr s30))
def Xj.f {S_ : Type} (Y : S_ → Int → Option (S_ × Bool)) (y0 : S_) (Ta Tc : List Zn) (TP : List Zb) (TY JL : Int) : Option S_ := runF (Xj.F Y y0 Ta Tc TP TY JL) .start
theorem Xj.ok {S_ : Type} (Y : S_ → Int → Option (S_ × Bool)) (y0 : S_) (Ta Tc : List Zn) (TP : List Zb) (TY JL : Int) (Kl Km Kq : Value) (b8 b11 : Nat) (r : S_) (H : Xj.f Y y0 Ta Tc TP TY JL = some r) (w : World) (hV : Hp) (sV : Sub hV (hp w)) (h0 : slR Z5 hV Kl Ta) (h1 : slR Z5 hV Km Tc) (h2 : slR Z8 hV Kq TP) (h3 : (boxP b8 [Kl, Km, Kq, .int .i64 TY] 25).p hV) (h4 : (boxP b11 [.int .i64 JL] 3).p hV) (lY : Nat) (I : S_ → HO) (hA : Hp) (sA : Sub hA (hp w)) (dA : Dj hV hA) (hI : (I y0).p hV hA) (hY : Go.Q.Yields Tryz.prog lY hV Y I (E1 (kInt .i64) false)) :
    Trip Tryz.prog 95 [.func (.yield lY) #[] #[], .pointer (some ⟨b8, 0, none⟩), .pointer (some ⟨b11, 0, none⟩)].toArray hA hV w (fun v => HO.pand (v = .tuple #[]) (HO.seps [I r])) := by
 have see : Sees w hA hV := ⟨sV, dA⟩
 refine Trip.of (P := Tryz.prog) (n := ⟨28, []⟩) Tryz.func95 rfl ⟨rfl, rfl⟩ rfl (St.beginA (os := [I y0]) sA (aS h0 (aS h1 (aS h2 (All.cons (x := boxP b8 [Kl, Km, Kq, .int .i64 TY] 25) h3 (All.cons (x := boxP b11 [.int .i64 JL] 3) h4 (All.nil _)))))) ⟨hA, em, Dj.XR _, Sub.refl _, Sub.em _, hI, trivial⟩) ?_
 obtain ⟨m0, o, ho, hr⟩ := rn H
 refine CP.seq ?_
 refine CP.region ?_
 refine SP.val (Val.fieldAddr Tryz.underlying25 rfl sz23.h rfl) rfl rfl rfl ?_
 refine SP.val (Val.loadB1 see 3 rfl Tryz.underlying23 rfl rfl rfl) rfl rfl rfl ?_
 refine SP.val (Val.loadB1 see 4 rfl Tryz.underlying3 rfl rfl rfl) rfl rfl rfl ?_
 refine ip 2 ho fun x15 ho p13 => ?_
 refine SP.fieldP see 0 rfl Tryz.underlying34 rfl sz32.h Z8.Td rfl rfl rfl (fun p16 => ?_)
 refine SP.loadPS see 0 rfl Tryz.underlying32 rfl rfl rfl (fun v18 => gg ?_)
 refine lo ho hr (fun z => ∃ s30 x31, z (.l1 x15 s30 x31) [(0, .func (.yield lY) #[] #[]), (11, v18), (12, .int .i64 (x15.Code.length : Int)), (13, .int .i64 x31)] [I s30]) (fun _ z => ⟨y0, 0, z⟩) ?_ (hb := pe [slP Za v18 x15.Code])
 rintro _ _ _ ⟨s30, x31, m32, o, _, _, ho, hr, h⟩
 refine en h ?_
 refine ci ho (fun ho => ?_) fun ho => ?_
 ·refine ip 0 ho fun x35 ho p33 => ?_
  refine ld 0 ?_
  refine al fun b36 => ?_
  refine st 0 ?_
  obtain ⟨t41, Z0e, ho⟩ := bind_some ho
  refine SP.js 6 [0, 11, 12, 13] 26 (.bool t41.1) (fun w2 => St w hA hV [elP Za p33 x35, slP Za v18 x15.Code] [boxO b36 [.int .u8 x35.Op, .int .i64 x35.A, .int .i64 x35.B] 43, I t41.2] w2) ?_ ?_
  ·clear Z0e
   refine gg ?_
   refine cb ho (fun ho => ?_) fun ho => ?_
   ·exact fin ho hr ▸ rt (sO [1])
   exact lw ho hr (fun _ z => ⟨t41.2, (IntKind.i64.wrap (x31 + 1)), z⟩) (sO [1])
  refine bi 20 Z0e (fun hq39 ho => ?_) fun hq39 ho => ?_
  ·refine so [1, 0] ?_
   obtain ⟨y40, hc, ho⟩ := bind_some ho
   refine SP.callY see hY (t := y40.1) (b := y40.2) hc rfl rfl rfl rfl (fun hP ap => ⟨_, rfl, ⟨_, rfl, rfl⟩⟩) ?_
   clear hc
   refine gg ?_
   obtain rfl := Option.some.inj ho
   exact QE.jn fun w2 hw => (St.selO [1, 0] rfl rfl hw)
  obtain rfl := Option.some.inj ho
  exact jn
 obtain rfl := fin ho hr
 exact QE.over (rs := []) (vs := []) Tryz.results95 rfl trivial (fun w2 h => St.done (fun a b p s => ⟨rfl, s⟩) (St.selO [0] rfl rfl h))
def Wz.y1 (m_0 : Z9) (k_1 : Int) (l39 : List Int) (x41 x42 : Int) : Option ((((List Int) × Int) × Bool) × Bool) :=
  if ((decide (x42 < 0)) || (decide (x42 ≥ (m_0.Methods.length : Int)))) = true then (some (((l39, 2), true), false)) else (if (l39.length + [x42].length) * 8 ≤ 140737488355328 then (some (((l39 ++ [x42], x41), false), true)) else none)
def Wz.f (m_0 : Z9) (k_1 : Int) : Option ((List Int) × Int) :=
  if ((decide (k_1 < 0)) || (decide (k_1 ≥ (m_0.Methods.length : Int)))) = true then (some ([], 2)) else ((TQ.f m_0 k_1).bind fun t15 => (Xj.f (fun s x => bif s.2 then none else Wz.y1 m_0 k_1 s.1.1 s.1.2 x) (([], 0), false) m_0.Zj m_0.Pool m_0.Methods m_0.Zd k_1).bind fun s55 => match s55 with | ((l39, x41), lf57) => if lf57 = true then (some ([], x41)) else (if l39.length < 4611686018427387904 then (if (l39.mergeSort fun x y => decide (x ≤ y)).length < 4611686018427387904 then (some ((Lib.compact (l39.mergeSort fun x y => decide (x ≤ y))), 0)) else none) else none))
theorem Wz.ok (m_0 : Z9) (k_1 : Int) (Z4 Z6 Z0 : Value) (r : (List Int) × Int) (H : Wz.f m_0 k_1 = some r) (w : World) (hV : Hp) (sV : Sub hV (hp w)) (h0 : slR Z5 hV Z4 m_0.Zj) (h1 : slR Z5 hV Z6 m_0.Pool) (h2 : slR Z8 hV Z0 m_0.Methods) :
    Trip Tryz.prog 23 [.agg #[Z4, Z6, Z0, .int .i64 m_0.Zd], .int .i64 k_1].toArray em hV w (fun v => HO.ex fun u0 : Value => HO.pand (v = .tuple #[u0, .int .i64 r.2]) (HO.seps [slO (kInt .i64) 3 u0 r.1])) := by
 have see : Sees w em hV := ⟨sV, Dj.XR _⟩
 refine Trip.ofM (P := Tryz.prog) (n := ⟨38, []⟩) Tryz.func23 rfl ⟨rfl, rfl⟩ rfl (St.begin (aS h0 (aS h1 (aS h2 (All.nil _))))) ?_
 have ho := H
 refine gg ?_
 refine bx fun b4 => ?_
 refine al fun b6 => ?_
 refine al fun b8 => ?_
 refine SP.jn 6 [1, 2, 4, 5] 16 (.bool ((decide (k_1 < 0)) || (decide (k_1 ≥ (m_0.Methods.length : Int))))) ?_ ?_
 ·refine gg ?_
  refine cb ho (fun ho => ?_) fun ho => ?_
  ·refine st 1 ?_
   refine st 0 ?_
   obtain rfl := Option.some.inj ho
   exact QE.retsM 3 rfl (rs := [.cell 4 48, .cell 5 28]) (vs := [(.slice none 0 0), .int .i64 2]) Tryz.results23 ⟨RVs.cell1 1 rfl rfl Tryz.underlying48 rfl, RVs.cell1 0 rfl rfl Tryz.underlying28 rfl, trivial⟩ (fun w2 h => St.done (fun a b p s => ⟨_, rfl, s⟩) (St.selO [0] rfl rfl (St.addO (slO.nil (kInt .i64) 3) h)))
  refine al fun b13 => ?_
  obtain ⟨t15, hc, ho⟩ := bind_some ho
  refine SP.callK see (caps := []) _ fn47.h rfl rfl rfl rfl (fun w2 hP hs sub ap => TQ.ok _ hc w2 hP sub (aS (ap.get 0 rfl) (aS (ap.get 1 rfl) (aS (ap.get 2 rfl) (All.nil _))))) (SP.k2 fun b16 b17 => ?_)
  refine SP.imp (fun w2 h => St.toP 0 rfl h) ?_
  refine SP.imp (fun w2 h => St.toP 0 rfl h) ?_
  clear hc
  refine gg ?_
  obtain ⟨s55, hc, ho⟩ := bind_some ho
  obtain ⟨⟨l39, x41⟩, lf57⟩ := s55
  refine CP.imp (A' := fun w2 => St w em hV [boxP b17 [.int .i64 k_1] 3, boxP b16 [Z4, Z6, Z0, .int .i64 m_0.Zd] 25, slP Z5 Z4 m_0.Zj, slP Z5 Z6 m_0.Pool, slP Z8 Z0 m_0.Methods] [(fun s : (List Int) × Int => (fun (l39 : List Int) (x41 : Int) => HO.ex fun v40 : Value => HO.seps [slO (kInt .i64) 3 v40 l39, boxO b13 [v40] 48, boxO b8 [.int .i64 x41] 28, boxO b6 [(.slice none 0 0)] 48, boxO b4 [Z4, Z6, Z0, .int .i64 m_0.Zd] 25]) s.1 s.2) ([], 0), marksO []] w2) (fun w2 hw => St.shut (.slice none 0 0) (St.group _ (St.addO (slO.nil (kInt .i64) 3) hw))) ?_
  refine CP.rangeR see (J := fun s : (List Int) × Int => (fun (l39 : List Int) (x41 : Int) => HO.ex fun v40 : Value => HO.seps [slO (kInt .i64) 3 v40 l39, boxO b13 [v40] 48, boxO b8 [.int .i64 x41] 28, boxO b6 [(.slice none 0 0)] 48, boxO b4 [Z4, Z6, Z0, .int .i64 m_0.Zd] 25]) s.1 s.2) (Y := fun s x => bif s.2 then none else Wz.y1 m_0 k_1 s.1.1 s.1.2 x) (s0 := ([], 0)) (sf := (l39, x41)) (E := (E1 (kInt .i64) false)) (caps := [.pointer (some ⟨b16, 0, none⟩), .pointer (some ⟨b17, 0, none⟩)]) fn95.h rfl (σ1 := [(2, .pointer (some ⟨b4, 0, none⟩)), (4, .pointer (some ⟨b6, 0, none⟩)), (5, .pointer (some ⟨b8, 0, none⟩)), (6, .pointer (some ⟨b13, 0, none⟩))]) ⟨rfl, rfl, rfl, rfl, trivial⟩ rfl (E1.len rfl) (fun _ _ => rfl) (fun lY I w2 hP h1 sub s1 d1 ap hI hY => Xj.ok (fun s x => bif s.2 then none else Wz.y1 m_0 k_1 s.1.1 s.1.2 x) (([], 0), false) m_0.Zj m_0.Pool m_0.Methods m_0.Zd k_1 _ _ _ _ _ _ hc w2 hP sub (ap.get 2 rfl) (ap.get 3 rfl) (ap.get 4 rfl) (ap.get 1 rfl) (ap.get 0 rfl) lY I h1 s1 d1 hI hY) ?_ ho (fun D56 ho => ?_) (fun D56 ho => ?_)
  ·rintro lY LO hLO s_ x42 t l b vals ho w3 hP3 h3 sub3 s3 d3 ap3 hE
   obtain ⟨l39, x41⟩ := s_
   obtain ⟨q43, rfl, cs0, hk0, e0⟩ := hE
   replace e0 : [q43] = cs0 := e0
   subst e0
   obtain rfl : q43 = .int .i64 x42 := (List.cons.inj hk0).1
   have see : Sees w3 h3 hP3 := ⟨sub3, d3⟩
   refine CP.weak (σ' := [(2, .pointer (some ⟨b4, 0, none⟩)), (4, .pointer (some ⟨b6, 0, none⟩)), (5, .pointer (some ⟨b8, 0, none⟩)), (6, .pointer (some ⟨b13, 0, none⟩)), (20, .int .i64 x42)]) ⟨rfl, rfl, rfl, rfl, rfl, trivial⟩ (fun _ h => h) ?_
   refine CP.ex (fun w2 h => St.open h) (fun v40 => ?_)
   refine CP.imp (fun w2 h => St.seps h) (gg ?_)
   refine QE.beginR hLO 5 rfl (gg ?_)
   refine SP.jn 6 [4, 5, 6, 7] 29 (.bool ((decide (x42 < 0)) || (decide (x42 ≥ (m_0.Methods.length : Int))))) ?_ ?_
   ·refine gg ?_
    refine cb ho (fun ho => ?_) fun ho => ?_
    ·refine st 3 ?_
     refine st 2 ?_
     obtain ⟨h_, rfl⟩ := Prod.mk.inj (Option.some.inj ho)
     obtain ⟨rfl, rfl⟩ := Prod.mk.inj h_
     exact QE.overR hLO 5 rfl fun w2 hw => St.shut v40 (St.group _ (St.selP [] rfl hw))
    refine li (h := fun _ => id) (kInt .i64) [x42] fun v46 => ?_
    refine fz 0 ?_
    refine ap (h := fun _ => id) 0 0 ho fun v48 ho => ?_
    refine sh 0 fun Z9h => ?_
    refine st 1 ?_
    obtain ⟨h_, rfl⟩ := Prod.mk.inj (Option.some.inj ho)
    obtain ⟨rfl, rfl⟩ := Prod.mk.inj h_
    exact QE.overN hLO 5 rfl fun w2 hw => St.shut v48 (St.group _ (St.selP [] rfl hw))
   refine bb 23 (fun hq45 => ?_) fun hq45 => ?_
   ·exact jb (WL hq45)
   exact jb (WM hq45 rfl)
  ·refine QE.ex (fun w2 h => St.open h) (fun v40 => ?_)
   refine QE.imp (fun w2 h => St.seps h) (gg ?_)
   obtain rfl := Option.some.inj ho
   exact QE.retsM 5 rfl (rs := [.cell 4 48, .cell 5 28]) (vs := [(.slice none 0 0), .int .i64 x41]) Tryz.results23 ⟨RVs.cell1 3 rfl rfl Tryz.underlying48 rfl, RVs.cell1 2 rfl rfl Tryz.underlying28 rfl, trivial⟩ (fun w2 h => St.done (fun a b p s => ⟨_, rfl, s⟩) (St.selO [0] rfl rfl (St.addO (slO.nil (kInt .i64) 3) h)))
  refine QE.ex (fun w2 h => St.open h) (fun v40 => ?_)
  refine QE.imp (fun w2 h => St.seps h) (gg ?_)
  obtain ⟨hb, ho⟩ := X6 ho
  refine SP.callA see (caps := []) (fun r => HO.pand (r = .tuple #[]) (HO.seps [slO (kInt .i64) 3 v40 (l39.mergeSort fun x y => decide (x ≤ y))])) fn48.h rfl rfl rfl rfl (fun w2 hP h1 sub s1 d1 ap hI => Z14 hb sub s1 d1 hI) (SP.k0 ?_)
  clear hb
  refine gg ?_
  obtain ⟨hb, ho⟩ := X6 ho
  refine SP.callA see (caps := []) (fun r => HO.ex fun u : Value => HO.pand (r = u) (HO.seps [slO (kInt .i64) 3 u (Lib.compact (l39.mergeSort fun x y => decide (x ≤ y)))])) fn49.h rfl rfl rfl rfl (fun w2 hP h1 sub s1 d1 ap hI => Ji hb sub s1 d1 hI) (SP.k1 fun v61 => ?_)
  clear hb
  refine sh 0 fun ZaO => ?_
  refine st 3 ?_
  refine st 2 ?_
  obtain rfl := Option.some.inj ho
  exact QE.retsM 5 rfl (rs := [.cell 4 48, .cell 5 28]) (vs := [v61, .int .i64 0]) Tryz.results23 ⟨RVs.cell1 3 rfl rfl Tryz.underlying48 rfl, RVs.cell1 2 rfl rfl Tryz.underlying28 rfl, trivial⟩ (fun w2 h => St.done (fun a b p s => ⟨_, rfl, s⟩) (St.selO [0] rfl rfl h))
 refine bb 10 (fun hq11 => ?_) fun hq11 => ?_
 ·exact jb (WL hq11)
 exact jb (WM hq11 rfl)
inductive WX.S where
  | start
  | l1 (l18 : List (List Int)) (x20 : Int)
def WX.F (m_0 : Z9) : WX.S → Option (WX.S ⊕ ((List (List Int)) × Int))
  | .start => some (.inl (.l1 [] 0))
  | .l1 l18 x20 => if x20 < (m_0.Methods.length : Int) then ((Wz.f m_0 x20).bind fun t22 => if t22.2 ≠ 0 then (some (.inr ([], t22.2))) else (if (l18.length + [t22.1].length) * 24 ≤ 140737488355328 then (some (.inl (.l1 (l18 ++ [t22.1]) (IntKind.i64.wrap (x20 + 1))))) else none)) else (some (.inr (l18, 0)))
def WX.f (m_0 : Z9) : Option ((List (List Int)) × Int) := runF (WX.F m_0) .start
theorem WX.ok {m_0 Z4 Z6 Z0} (r) (H : WX.f m_0 = some r) : Ok Tryz.prog 82 [.agg #[Z4, Z6, Z0, .int .i64 m_0.Zd]] [slP Z5 Z4 m_0.Zj, slP Z5 Z6 m_0.Pool, slP Z8 Z0 m_0.Methods] fun v => HO.ex fun u0 : Value => HO.pand (v = .tuple #[u0, .int .i64 r.2]) (HO.seps [slO (kSl (kInt .i64)) 48 u0 r.1]) := by
 refine oq 29 Tryz.func82 fun w hV see pb => ?_
 obtain ⟨m0, o, ho, hr⟩ := rn H
 refine bx fun b4 => ?_
 refine lo ho hr (fun z => ∃ l18 x20 v19, z (.l1 l18 x20) [(1, .pointer (some ⟨b4, 0, none⟩)), (4, v19), (10, .int .i64 (m_0.Methods.length : Int)), (11, .int .i64 x20)] [slO (kSl (kInt .i64)) 48 v19 l18, boxO b4 [Z4, Z6, Z0, .int .i64 m_0.Zd] 25]) (fun _ z => ⟨[], 0, (.slice none 0 0), z⟩) ?_ (fun _ hw => (St.addO (slO.nil (kSl (kInt .i64)) 48) hw))
 rintro _ _ _ ⟨l18, x20, v19, m21, o, _, _, ho, hr, h⟩
 refine en h ?_
 refine ci ho (fun ho => ?_) fun ho => ?_
 ·obtain ⟨t22, hc, ho⟩ := bind_some ho
  refine SP.callK see (caps := []) _ fn23.h rfl rfl rfl rfl (fun w2 hP hs sub ap => Wz.ok _ _ _ _ _ _ hc w2 hP sub (ap.get 0 rfl) (ap.get 1 rfl) (ap.get 2 rfl)) (SP.k1 fun v23 => ?_)
  clear hc
  refine gg ?_
  refine ci ho (fun ho => ?_) fun ho => ?_
  ·exact fin ho hr ▸ rt (fun _ h => St.selO [0] rfl rfl (St.addO (slO.nil (kSl (kInt .i64)) 48) h))
  refine fz 0 ?_
  refine SP.litS (k := (kSl (kInt .i64))) (xs := [t22.1]) (vs := [v23]) Tryz.underlying71 inf48.h rfl rfl rfl rfl rfl rfl (fun _ ap => ⟨slR.cells1 (ap.get 0 rfl), trivial⟩) (fun _ ap => ⟨[v23], _, rfl, ⟨_, rfl, ap.get 0 rfl⟩, rfl⟩) rfl rfl rfl (fun v26 => ?_)
  refine fz 0 ?_
  refine ap 0 0 ho fun v28 ho => ?_
  exact lw ho hr (fun _ z => ⟨(l18 ++ [t22.1]), (IntKind.i64.wrap (x20 + 1)), v28, z⟩)
 exact fin ho hr ▸ rt (sO [0])
shelf_lay_g SlLaysZI.n7 Ggz 7 at Tryz 84 as Tryz.keys84
shelf_lay_g SlLaysZI.n6 Ggz 6 at Tryz 83 as Tryz.sorted83
open Go.RowKit Go.Maps Go.Sort Go.Shelf in
theorem Z8c (m : Nat) : AnyZI.SortsIn Tryz.prog Tryz.sorted83_ren Fence.wide m :=
  ⟨fun blk off cap ss W hH hblk hsz => callsIn_wide.2 (AnyM.slices_Sort_int Tryz.sorti48 blk off cap ss W hH hblk hsz),
   fun p cap W => callsIn_wide.2 (AnyM.slices_Sort_int_none Tryz.sorti48 p cap W)⟩
theorem Z4d (b : Nat) (w : World) (hV : Hp) : Trip Tryz.prog 84 #[.map (some b)] em hV w (fun v => HO.ex fun c : Nat => HO.pand (v = .func (.func 140) #[] #[.pointer (some ⟨c, 0, none⟩)]) (HO.seps [boxO c [.map (some b)] 126])) := by
  have cK : CallsIn Fence.wide 5 Tryz.prog 84 #[.map (some b)] w fun e w' => e = .returned (.func (.func 140) #[] #[.pointer (some ⟨w.heap.size, 0, none⟩)]) ∧ w' = w.alloc (.cells #[.map (some b)] 126) := AnyZI.keys_in Tryz.keys84 Fence.wide 5 trivial rfl (some b) w
  refine ((callsIn_wide (n := 5)).1 cK).mono fun e w' ⟨he, hw⟩ => ?_
  subst he; subst hw
  exact St.done (os := [boxO w.heap.size [.map (some b)] 126]) (fun a b p s => ⟨_, rfl, s⟩) ((St.begin (All.nil hV)).box [.map (some b)] 126)
open Go.RowKit Go.Maps Go.Sort Go.Shelf in
theorem Z2X {β : Type} {kv : β → Value} {m : List (Int × β)} {b c : Nat} (ok : okKeys m = true) (w : World) (h1 : (boxO c [.map (some b)] 126).p (hp w) (hp w)) (h2 : (mapO b .i64 kv m).p (hp w) (hp w)) :
    Trip Tryz.prog 83 #[.func (.func 140) #[] #[.pointer (some ⟨c, 0, none⟩)]] em (hp w) w (fun r => HO.ex fun u : Value => HO.pand (r = u) (HO.seps [slO (kInt .i64) 3 u (VR m)])) := by
  obtain ⟨D0, hown, hperm, hsize⟩ := ownsOf Tryz.underlying3 h2 ok
  have hcell : w.heap[c]? = some (.cells #[.map (some b)] 126 (0, 0)) := h1
  have hlen : m.length ≤ 1000000 := by simp only [okKeys, Bool.and_eq_true, decide_eq_true_eq] at ok; exact ok.2
  have hseq : SeqGives Fence.wide 2 Tryz.prog 140 #[.pointer (some ⟨c, 0, none⟩)] encZ (fun ss => ss.Perm (intKeys D0)) (Maps.size D0) w :=
    AnyZI.keys_gives (ρ := Tryz.keys84_ren) { Tryz.keys84 with } Fence.wide _ trivial rfl (by omega) c b m.length D0 _ (Array.getElem?_eq_some_iff.1 hcell).1 (by simp [World.cell?, hcell]) hown
  have cS := AnyZI.sorted_in Tryz.sorted83 Fence.wide 5 trivial trivial trivial trivial rfl (by omega) (Z8c _) (enters_of Tryz.func48 (by kernel_rfl) rfl) 140 #[.pointer (some ⟨c, 0, none⟩)] trivial (enters_of Tryz.func140 (by kernel_rfl) rfl) _ _ (by rw [hsize]; simp only [maxLen]; omega) (by rw [hsize]; omega) _ hseq
  change CallsIn _ _ Tryz.prog 83 _ _ _ at cS
  refine ((callsIn_wide (n := 5)).1 cS).mono fun e w' ⟨v, ss, he, hS, hrow, hnil, hb⟩ => ?_
  subst he
  have e1 : (ss.mergeSort fun x y => decide (x ≤ y)) = VR m := mergeSort_of_perm_i (hS.trans hperm)
  have e2 : ss.length = (VR m).length := by rw [← e1, List.length_mergeSort]
  rw [e1, e2] at hrow
  exact Z56 (k := kInt .i64) hrow hb (Z2E _)
inductive X5.S where
  | start
  | l1 (x6 : Int)
def X5.F (s_0 : List Int) (v_1 : Int) : X5.S → Option (X5.S ⊕ Int)
  | .start => some (.inl (.l1 0))
  | .l1 x6 => if x6 < (s_0.length : Int) then ((elt s_0 x6).bind fun x10 => if v_1 = x10 then (some (.inr x6)) else (some (.inl (.l1 (IntKind.i64.wrap (x6 + 1)))))) else (some (.inr (-1)))
def X5.f (s_0 : List Int) (v_1 : Int) : Option Int := runF (X5.F s_0 v_1) .start
theorem X5.ok {s_0 v_1 Yz} (r) (H : X5.f s_0 v_1 = some r) : Ok Tryz.prog 141 [Yz, .int .i64 v_1] [slP (kInt .i64) Yz s_0] fun v => HO.pure (v = .int .i64 r) := by
 refine oq 19 Tryz.func141 fun w hV see pb => ?_
 obtain ⟨m0, o, ho, hr⟩ := rn H
 refine lo ho hr (fun z => ∃ x6, z (.l1 x6) [(0, Yz), (1, .int .i64 v_1), (7, .int .i64 (s_0.length : Int)), (8, .int .i64 x6)] []) (fun _ z => ⟨0, z⟩) ?_
 rintro _ _ _ ⟨x6, m7, o, _, _, ho, hr, h⟩
 refine en h ?_
 refine ci ho (fun ho => ?_) fun ho => ?_
 ·refine ip 0 ho fun x10 ho p8 => ?_
  refine SP.val (Val.loadP1 see 0 rfl (fun _ _ e => e) Tryz.underlying3 rfl rfl) rfl rfl rfl (gg ?_)
  refine ci ho (fun ho => ?_) fun ho => ?_
  ·exact fin ho hr ▸ rt
  exact lw ho hr (fun _ z => ⟨(IntKind.i64.wrap (x6 + 1)), z⟩)
 exact fin ho hr ▸ rt
def Wy.f (s_0 : List Int) (v_1 : Int) : Option Bool :=
  (X5.f s_0 v_1).bind fun t2 => some (decide (t2 ≥ 0))
theorem Wy.ok {s_0 v_1 Yz} (r) (ho : Wy.f s_0 v_1 = some r) : Ok Tryz.prog 85 [Yz, .int .i64 v_1] [slP (kInt .i64) Yz s_0] fun v => HO.pure (v = .bool r) := by
 refine oq 9 Tryz.func85 fun w hV see pb => ?_
 refine kv X5.ok ho fun t2 ho => ?_
 exact Option.some.inj ho ▸ rt
inductive Y3.S where
  | start
  | l1 (t6 : (List (List Int)) × Int) (l131 : List (Int × Int)) (x132 : Int)
  | l2 (t6 : (List (List Int)) × Int) (l192 : List (Int × Int)) (l194 : List Int)
  | l3 (t6 : (List (List Int)) × Int) (l192 : List (Int × Int)) (l194 : List Int) (x206 : Int)
  | l4 (t6 : (List (List Int)) × Int) (l194 : List Int) (x211 : Int) (l229 l230 : List (Int × Int))
  | p5 (t6 : (List (List Int)) × Int) (l194 : List Int) (x211 : Int) (l229 : List (Int × Int)) (k236 x237 : Int) (l238 : List (Int × Int))
def Y3.j1 (m_0 : Z9) (t6 : (List (List Int)) × Int) (l192 : List (Int × Int)) (l194 : List Int) (x211 : Int) : Option (List Y3.S ⊕ ((List Int) × Int)) :=
  if x211 < 0 then (some (.inr ([], 110))) else (some (.inl [.l4 t6 l194 x211 (mdel l192 x211) (mdel l192 x211)]))
def Y3.F (m_0 : Z9) : Y3.S → Option (List Y3.S ⊕ ((List Int) × Int))
  | .start => (WX.f m_0).bind fun t6 => if t6.2 ≠ 0 then (some (.inr ([], t6.2))) else (some (.inl [.l1 t6 ([] : List (Int × Int)) 0]))
  | .l1 t6 l131 x132 => if x132 < (t6.1.length : Int) then ((elt t6.1 x132).bind fun x135 => some (.inl [.l1 t6 (mset l131 x132 (x135.length : Int)) (IntKind.i64.wrap (x132 + 1))])) else (some (.inl [.l2 t6 l131 []]))
  | .l2 t6 l192 l194 => if (l192.length : Int) > 0 then (if okKeys l192 = true then (some (.inl [.l3 t6 l192 l194 0])) else none) else (some (.inr (l194, 0)))
  | .l3 t6 l192 l194 x206 => if x206 < ((VR l192).length : Int) then ((elt (VR l192) x206).bind fun x209 => if ((mget l192 x209).getD 0) = 0 then (Y3.j1 m_0 t6 l192 l194 x209) else (some (.inl [.l3 t6 l192 l194 (IntKind.i64.wrap (x206 + 1))]))) else (Y3.j1 m_0 t6 l192 l194 (-1))
  | .l4 t6 l194 x211 l229 l230 => if l230.isEmpty = true then (if (l194.length + [x211].length) * 8 ≤ 140737488355328 then (some (.inl [.l2 t6 l229 (l194 ++ [x211])])) else none) else some (.inl ((picks l230).map (fun z => .p5 t6 l194 x211 l229 z.1.1 z.1.2 z.2)))
  | .p5 t6 l194 x211 l229 k236 x237 l238 => (elt t6.1 k236).bind fun x241 => (Wy.f x241 x211).bind fun t244 => if t244 = true then (if (l229.map (fun p => p.1)).Nodup ∧ (mget l229 k236).isSome = true then (some (.inl [.l4 t6 l194 x211 (mup l229 k236 (IntKind.i64.wrap (((mget l229 k236).getD 0) - 1))) (mup l238 k236 (IntKind.i64.wrap (((mget l229 k236).getD 0) - 1)))])) else none) else (some (.inl [.l4 t6 l194 x211 l229 l238]))
def Y3.f (m_0 : Z9) : Option ((List Int) × Int) := runD (Y3.F m_0) .start
theorem Y3.ok {m_0 Z4 Z6 Z0} (r) (H : Y3.f m_0 = some r) : Ok Tryz.prog 36 [.agg #[Z4, Z6, Z0, .int .i64 m_0.Zd]] [slP Z5 Z4 m_0.Zj, slP Z5 Z6 m_0.Pool, slP Z8 Z0 m_0.Methods] fun v => HO.ex fun u0 : Value => HO.pand (v = .tuple #[u0, .int .i64 r.2]) (HO.seps [slO (kInt .i64) 3 u0 r.1]) := by
 refine oq 77 Tryz.func36 fun w hV see pb => ?_
 obtain ⟨n0, hi⟩ := Kz.1 H
 obtain ⟨m0, o, hm0, ho, hr⟩ := UQ hi
 clear hi
 refine gg ?_
 refine bx fun b4 => ?_
 refine k1 WX.ok ho fun t6 ho v7 => ?_
 refine ci ho (fun ho => ?_) fun ho => ?_
 ·obtain rfl := Option.some.inj ho
  obtain rfl : _ = r := hr
  exact QE.rt (fun _ h => St.selO [0] rfl rfl (St.addO (slO.nil (kInt .i64) 3) h))
 refine SP.makeMap .i64 (fun z : Int => Value.int .i64 z) rfl rfl (fun b10 => gg ?_)
 obtain rfl := Option.some.inj ho
 refine CP.loop (fun cl1 a w2 => ∃ l131 : List (Int × Int), ∃ x132 : Int, cl1 ≤ m0 ∧ stepsD (Y3.F m_0) cl1 (.l1 t6 l131 x132) r ∧ Env ⟨77, []⟩ [(4, v7), (6, .map (some b10)), (23, v7), (24, .int .i64 (t6.1.length : Int)), (25, .int .i64 x132)] a ∧ St w em hV [] [mapO b10 .i64 (fun z : Int => Value.int .i64 z) l131, slO (kSl (kInt .i64)) 48 v7 t6.1] w2) m0 (fun a w2 ha hw => ⟨([] : List (Int × Int)), 0, Nat.le_refl _, (Ue hr), ha.sub sb, (St.selP [] rfl (St.selO [0, 1] rfl rfl hw))⟩) ?_
 clear hr
 rintro cl1 a w2 ⟨l131, x132, Z1D, hi, ha, hw⟩
 obtain ⟨m133, o, ZaB, ho, hr⟩ := UQ hi
 refine CP.app ha hw ?_
 clear ha hw a w2 hi
 refine gg ?_
 refine ci ho (fun ho => ?_) fun ho => ?_
 ·obtain ⟨x135, Z2m, ho⟩ := YG ho
  refine SP.indexW (fun w2 hw => slO.whole (St.own 1 rfl see.sub see.dj hw)) Tryz.underlying71 sz48.h Z2m.1 Z2m.2 rfl rfl rfl rfl (fun p134 Z9j => ?_)
  refine SP.loadOS (j := x132) see 1 0 rfl Z2m.2 Z9j (fun _ _ ⟨v0_, e, p0_⟩ => ⟨v0_, by subst e; rfl, p0_⟩) Tryz.underlying48 rfl rfl rfl (fun v136 => gg ?_)
  refine SP.mapUpdate see 0 rfl Tryz.underlying126 Tryz.underlying3 rfl rfl rfl rfl (gg ?_)
  obtain rfl := Option.some.inj ho
  exact QE.lower m133 (by omega) fun a w2 ha hw => ⟨(mset l131 x132 (x135.length : Int)), (IntKind.i64.wrap (x132 + 1)), (by omega), (Ue hr), ha.sub sb, (St.selP [] rfl hw)⟩
 obtain rfl := Option.some.inj ho
 refine CP.loop (fun cl2 a w2 => ∃ l192 : List (Int × Int), ∃ l194 : List Int, ∃ v195 : Value, cl2 ≤ m133 ∧ stepsD (Y3.F m_0) cl2 (.l2 t6 l192 l194) r ∧ Env ⟨77, []⟩ [(4, v7), (6, .map (some b10)), (9, v195)] a ∧ St w em hV [] [slO (kInt .i64) 3 v195 l194, mapO b10 .i64 (fun z : Int => Value.int .i64 z) l192, slO (kSl (kInt .i64)) 48 v7 t6.1] w2) m133 (fun a w2 ha hw => ⟨l131, [], (.slice none 0 0), Nat.le_refl _, (Ue hr), ha.sub sb, (St.addO (slO.nil (kInt .i64) 3) hw)⟩) ?_
 clear hr
 rintro cl2 a w2 ⟨l192, l194, v195, Z9M, hi, ha, hw⟩
 obtain ⟨m196, o, ZaC, ho, hr⟩ := UQ hi
 refine CP.app ha hw ?_
 clear ha hw a w2 hi
 refine gg ?_
 refine SP.val (Val.lenM see 1 rfl Tryz.underlying126 rfl) rfl rfl rfl (gg ?_)
 refine ci (ht := id) ho (fun ho => ?_) fun ho => ?_
 ·refine go ?_
  refine CP.join (fun a w2 => ∃ x211 : Int, ∃ (m212 : Nat) (o : (List Y3.S ⊕ ((List Int) × Int))), m212 ≤ m196 ∧ Y3.j1 m_0 t6 l192 l194 x211 = some o ∧ nextD (Y3.F m_0) m212 r o ∧ Env ⟨77, []⟩ [(4, v7), (6, .map (some b10)), (9, v195), (10, .int .i64 x211)] a ∧ St w em hV [] [slO (kInt .i64) 3 v195 l194, mapO b10 .i64 (fun z : Int => Value.int .i64 z) l192, slO (kSl (kInt .i64)) 48 v7 t6.1] w2) ?_ ?_
  ·rintro a w2 ⟨x211, m212, o, Z87, ho, hr, ha, hw⟩
   refine CP.app ha hw ?_
   clear ha hw a w2
   refine gg ?_
   refine ci ho (fun ho => ?_) fun ho => ?_
   ·obtain rfl := Option.some.inj ho
    obtain rfl : _ = r := hr
    exact QE.rt (fun _ h => St.selO [0] rfl rfl (St.addO (slO.nil (kInt .i64) 3) h))
   refine SP.delete see 1 rfl Tryz.underlying126 Tryz.underlying3 rfl rfl rfl (gg ?_)
   refine so [1, 0, 2] ?_
   refine SP.range see Tryz.underlying126 rfl rfl rfl (fun r214 => gg ?_)
   obtain rfl := Option.some.inj ho
   refine CP.loop (fun cl4 a w2 => ∃ l229 : List (Int × Int), ∃ l230 : List (Int × Int), cl4 ≤ m212 ∧ stepsD (Y3.F m_0) cl4 (.l4 t6 l194 x211 l229 l230) r ∧ Env ⟨77, []⟩ [(4, v7), (6, .map (some b10)), (9, v195), (10, .int .i64 x211), (57, .pointer (some ⟨r214, 0, none⟩))] a ∧ St w em hV [] [rangeO r214 b10 .i64 (fun z : Int => Value.int .i64 z) l229 l230 none, slO (kInt .i64) 3 v195 l194, slO (kSl (kInt .i64)) 48 v7 t6.1] w2) m212 (fun a w2 ha hw => ⟨(mdel l192 x211), (mdel l192 x211), Nat.le_refl _, (Ue hr), ha.sub sb, hw⟩) ?_
   clear hr
   rintro cl4 a w2 ⟨l229, l230, ZaT, hi, ha, hw⟩
   obtain ⟨m231, o, ZaD, ho, hr⟩ := UQ hi
   refine CP.app ha hw ?_
   clear ha hw a w2 hi
   refine gg ?_
   rcases Ws ho with ⟨hc, ho⟩ | ⟨hc, ho⟩
   ·refine SP.next see 0 rfl rfl rfl rfl (fun _ => gg ?_) (fun j k v hj => by rw [List.isEmpty_iff.1 hc] at hj; simp at hj)
    refine CP.condF rfl rfl (gg ?_)
    refine li (h := fun _ => id) (kInt .i64) [x211] fun v232 => ?_
    refine fz 0 ?_
    refine ap 1 0 ho fun v234 ho => ?_
    obtain rfl := Option.some.inj ho
    exact QE.lower m231 (by omega) fun a w2 ha hw => ⟨l229, (l194 ++ [x211]), v234, (by omega), (Ue hr), ha.sub sb, (St.selP [] rfl (St.selO [1, 0, 2] rfl rfl (St.weakO 0 rfl rangeO.toMap hw)))⟩
   refine SP.next see 0 rfl rfl rfl rfl (fun h0 => absurd (by rw [h0]; rfl) hc) (fun j k236 x237 hj => ?_)
   obtain rfl := Option.some.inj ho
   replace hr := hr.2 _ (List.mem_map_of_mem (Z2B hj))
   obtain ⟨m239, o, ZaE, ho, hr⟩ := UQ hr
   clear hj hc
   generalize List.eraseIdx l230 j = l238 at ho ⊢
   refine gg ?_
   refine CP.condT rfl rfl (gg ?_)
   refine SP.val (Val.entry see 0 (p := (k236, x237)) rfl rfl) rfl rfl rfl (gg ?_)
   obtain ⟨x241, Z2n, ho⟩ := YG ho
   refine SP.indexW (fun w2 hw => slO.whole (St.own 2 rfl see.sub see.dj hw)) Tryz.underlying71 sz48.h Z2n.1 Z2n.2 rfl rfl rfl rfl (fun p240 Z9k => ?_)
   refine SP.loadOS (j := k236) see 2 0 rfl Z2n.2 Z9k (fun _ _ ⟨v0_, e, p0_⟩ => ⟨v0_, by subst e; rfl, p0_⟩) Tryz.underlying48 rfl rfl rfl (fun v242 => gg ?_)
   refine kv Wy.ok ho fun t244 ho => ?_
   refine cb ho (fun ho => ?_) fun ho => ?_
   ·refine SP.val (Val.Z7G (z0 := 0) see 0 rfl Tryz.underlying126 Tryz.underlying3 inf3.h (by kernel_rfl) rfl rfl) rfl rfl rfl (gg ?_)
    obtain ⟨hb, ho⟩ := X6 ho
    refine SP.Z55 see 0 rfl Tryz.underlying126 Tryz.underlying3 hb rfl rfl rfl rfl ?_
    clear hb
    refine gg ?_
    obtain rfl := Option.some.inj ho
    exact QE.lower m239 (by omega) fun a w2 ha hw => ⟨(mup l229 k236 (IntKind.i64.wrap (((mget l229 k236).getD 0) - 1))), (mup l238 k236 (IntKind.i64.wrap (((mget l229 k236).getD 0) - 1))), (by omega), (Ue hr), ha.sub sb, (St.selP [] rfl hw)⟩
   obtain rfl := Option.some.inj ho
   exact QE.lower m239 (by omega) fun a w2 ha hw => ⟨l229, l238, (by omega), (Ue hr), ha.sub sb, (St.selP [] rfl (St.weakO 0 rfl rangeO.forget hw))⟩
  refine gg ?_
  refine SP.callK see (caps := []) _ fn84.h rfl rfl rfl rfl (fun w2 hP hs sub ap => Z4d _ w2 hP) (SP.k1 fun b198 => ?_)
  obtain ⟨hb, ho⟩ := X6 ho
  refine SP.callKO see (caps := []) _ fn83.h rfl rfl rfl rfl (fun w2 hs => Z2X hb w2 (St.own 0 rfl see.sub see.dj hs) (St.own 2 rfl see.sub see.dj hs)) (fun v a a2 b ⟨v201, e, h⟩ => ⟨v201, e, (Sep.fcons (fun _ => slO.flip (fun _ _ _ _ h => h)) (fun _ => Sep.fnil)) h⟩) (SP.k1 fun v201 => ?_)
  clear hb
  refine gg ?_
  obtain rfl := Option.some.inj ho
  refine CP.loop (fun cl3 a w2 => ∃ x206 : Int, cl3 ≤ m196 ∧ stepsD (Y3.F m_0) cl3 (.l3 t6 l192 l194 x206) r ∧ Env ⟨77, []⟩ [(4, v7), (6, .map (some b10)), (9, v195), (10, .int .i64 (-1)), (40, v201), (41, .int .i64 ((VR l192).length : Int)), (42, .int .i64 x206)] a ∧ St w em hV [] [slO (kInt .i64) 3 v201 (VR l192), slO (kInt .i64) 3 v195 l194, mapO b10 .i64 (fun z : Int => Value.int .i64 z) l192, slO (kSl (kInt .i64)) 48 v7 t6.1] w2) m196 (fun a w2 ha hw => ⟨0, Nat.le_refl _, (Ue hr), ha.sub sb, (St.selO [0, 2, 3, 4] rfl rfl hw)⟩) ?_
  clear hr
  rintro cl3 a w2 ⟨x206, Z9N, hi, ha, hw⟩
  obtain ⟨m207, o, ZaF, ho, hr⟩ := UQ hi
  refine CP.app ha hw ?_
  clear ha hw a w2 hi
  refine gg ?_
  refine ci ho (fun ho => ?_) fun ho => ?_
  ·obtain ⟨x209, Z2o, ho⟩ := YG ho
   refine SP.indexW (fun w2 hw => slO.whole (St.own 0 rfl see.sub see.dj hw)) Tryz.underlying48 sz3.h Z2o.1 Z2o.2 rfl rfl rfl rfl (fun p208 Z9l => ?_)
   refine SP.val (Val.loadW1 (off := 0) (k := (kInt .i64)) (fun w2 hw => slO.whole (St.own 0 rfl see.sub see.dj hw)) Z2o.2 Z9l (fun _ _ e => by subst e; rfl) Tryz.underlying3 rfl rfl) rfl rfl rfl (gg ?_)
   refine SP.val (Val.lookup (z0 := 0) see 2 rfl Tryz.underlying126 Tryz.underlying3 inf3.h (by kernel_rfl) rfl rfl) rfl rfl rfl (gg ?_)
   refine ci ho (fun ho => ?_) fun ho => ?_
   ·exact QE.meet fun a w2 ha hw => ⟨x209, m207, _, (by omega), ho, hr, ha.sub sb, (St.selO [1, 2, 3] rfl rfl hw)⟩
   obtain rfl := Option.some.inj ho
   exact QE.lower m207 (by omega) fun a w2 ha hw => ⟨(IntKind.i64.wrap (x206 + 1)), (by omega), (Ue hr), ha.sub sb, hw⟩
  exact QE.meet fun a w2 ha hw => ⟨(-1), m207, _, (by omega), ho, hr, ha.sub sb, (St.selO [1, 2, 3] rfl rfl hw)⟩
 obtain rfl := Option.some.inj ho
 obtain rfl : _ = r := hr
 exact QE.rt (fun _ h => St.selO [0] rfl rfl h)
def UW.f (m_0 : Z9) : Option Int :=
  (Y3.f m_0).bind fun t6 => some t6.2
theorem UW.ok {m_0 Z4 Z6 Z0} (r) (ho : UW.f m_0 = some r) : Ok Tryz.prog 14 [.agg #[Z4, Z6, Z0, .int .i64 m_0.Zd]] [slP Z5 Z4 m_0.Zj, slP Z5 Z6 m_0.Pool, slP Z8 Z0 m_0.Methods] fun v => HO.pure (v = .int .i64 r) := by
 refine oq 11 Tryz.func14 fun w hV see pb => ?_
 refine bx fun b4 => ?_
 refine k1 Y3.ok ho fun t6 ho v7 => ?_
 exact Option.some.inj ho ▸ rt
inductive ZK.S where
  | start
  | l1 (l12 : List Int) (x14 : Int)
def ZK.j2 (x_0 : List Int) (XJ : Int) (t3 : Int × Int) : Option (ZK.S ⊕ (List Int)) :=
  if (0 : Int) ≤ (IntKind.i64.wrap t3.2) ∧ (8 : Int) * (IntKind.i64.wrap t3.2) ≤ 281474976710656 ∧ ((IntKind.i64.wrap t3.2) : Int) ≤ 9223372036854775807 then (some (.inl (.l1 (x_0.take (List.replicate (IntKind.i64.wrap t3.2 : Int).toNat 0 : List Int).length ++ (List.replicate (IntKind.i64.wrap t3.2 : Int).toNat 0 : List Int).drop x_0.length) ((min x_0.length (List.replicate (IntKind.i64.wrap t3.2 : Int).toNat 0 : List Int).length : Nat) : Int)))) else none
def ZK.j1 (x_0 : List Int) (XJ : Int)  : Option (ZK.S ⊕ (List Int)) :=
  (WZ.f (IntKind.u64.wrap (x_0.length : Int)) (IntKind.u64.wrap XJ)).bind fun t3 => if ((decide (t3.1 > 0)) || (decide (t3.2 > 9223372036854775807))) = true then (none) else (ZK.j2 x_0 XJ t3)
def ZK.F (x_0 : List Int) (XJ : Int) : ZK.S → Option (ZK.S ⊕ (List Int))
  | .start => if XJ < 0 then (none) else (ZK.j1 x_0 XJ)
  | .l1 l12 x14 => if x14 < (l12.length : Int) then (if (0 : Int) ≤ x14 ∧ x14 ≤ (l12.length : Int) then (if (0 : Int) ≤ x14 ∧ x14 ≤ (l12.length : Int) then (some (.inl (.l1 (l12.take (x14 : Int).toNat ++ l12.take (min (x14 : Int).toNat (l12.length - (x14 : Int).toNat)) ++ l12.drop ((x14 : Int).toNat + min (x14 : Int).toNat (l12.length - (x14 : Int).toNat))) (IntKind.i64.wrap (x14 + ((min (x14 : Int).toNat (l12.length - (x14 : Int).toNat) : Nat) : Int)))))) else none) else none) else (some (.inr l12))
def ZK.f (x_0 : List Int) (XJ : Int) : Option (List Int) := runF (ZK.F x_0 XJ) .start
theorem ZK.ok {x_0 XJ KU} (r) (H : ZK.f x_0 XJ = some r) : Ok Tryz.prog 144 [KU, .int .i64 XJ] [slP (kInt .i64) KU x_0] fun v => HO.ex fun u0 : Value => HO.pand (v = u0) (HO.seps [slO (kInt .i64) 3 u0 r]) := by
 refine oq (h := fun _ _ _ => id) 48 Tryz.func144 fun w hV see pb => ?_
 obtain ⟨m0, o, ho, hr⟩ := rn H
 refine go ?_
 refine ji hr (fun z => z (ZK.j1 x_0 XJ) [(0, KU), (1, .int .i64 XJ)] []) ?_ ?_
 ·rintro _ _ ⟨m2, o, _, ho, hr, h⟩
  refine en h ?_
  obtain ⟨t3, hc, ho⟩ := bind_some ho
  refine SP.callV see (caps := []) (.tuple #[.int .u64 t3.1, .int .u64 t3.2]) fn203.h rfl rfl rfl rfl (fun w2 hP hs sub ap => WZ.ok _ _  _ hc w2 hP sub ) ?_
  clear hc
  refine go ?_
  refine ji hr (fun z => z (ZK.j2 x_0 XJ t3) [(0, KU), (6, .int .u64 t3.2)] []) ?_ ?_
  ·rintro _ _ ⟨m6, o, _, ho, hr, h⟩
   refine en h ?_
   obtain ⟨hb, ho⟩ := X6 ho
   refine SP.makeO (k := (kInt .i64)) (z := 0) Tryz.underlying48 inf3.h rfl (fun _ => rfl) rfl rfl rfl rfl hb (fun v7 => ?_)
   clear hb
   refine gg ?_
   refine SP.copyIn see 0 rfl 0 rfl Tryz.underlying48 sz3.h rfl rfl rfl rfl rfl (gg ?_)
   refine lo ho hr (fun z => ∃ l12 x14 v13, z (.l1 l12 x14) [(7, v13), (8, .int .i64 x14)] [slO (kInt .i64) 3 v13 l12]) (fun _ z => ⟨(x_0.take (List.replicate (IntKind.i64.wrap t3.2 : Int).toNat 0 : List Int).length ++ (List.replicate (IntKind.i64.wrap t3.2 : Int).toNat 0 : List Int).drop x_0.length), ((min x_0.length (List.replicate (IntKind.i64.wrap t3.2 : Int).toNat 0 : List Int).length : Nat) : Int), v7, z⟩) ?_ (hb := pe [])
   rintro _ _ _ ⟨l12, x14, v13, m15, o, _, _, ho, hr, h⟩
   refine en h ?_
   refine ci ho (fun ho => ?_) fun ho => ?_
   ·refine dr ?_
    refine DA.phase (fun _ => true) (fun _ => True) ?_
    refine DT.take 0 rfl rfl rfl rfl (by kernel_rfl) (fun _ _ _ h => h) (Val.move rfl) (fun _ _ => trivial) ?_
    refine DT.take 1 rfl rfl rfl rfl (by kernel_rfl) (fun _ _ _ h => h) (Val.move rfl) (fun _ _ => trivial) ?_
    refine DT.take 2 rfl rfl rfl rfl (by kernel_rfl) (fun _ _ _ h => h) (Val.move rfl) (fun _ _ => trivial) ?_
    refine DT.take 4 rfl rfl rfl rfl (by kernel_rfl) (fun _ _ _ h => h) (Val.move rfl) (fun _ _ => trivial) ?_
    refine DT.take 5 rfl rfl rfl rfl (by kernel_rfl) (fun _ _ _ h => h) (Val.move rfl) (fun _ _ => trivial) ?_
    refine DT.list (l2 := #[true, true, true, false, true, true, false, false, false, false]) (by kernel_rfl) ?_
    refine DT.free ?_
    obtain ⟨hz16, ho⟩ := X6 ho
    obtain ⟨hz17, ho⟩ := X6 ho
    refine DA.ph 0 7 ?_
    refine DT.tv 3 rfl (Val.sliceFrom see 0 rfl Tryz.underlying48 sz3.h rfl rfl hz16) ?_
    refine DT.tv 6 rfl (Val.sliceTo see 0 rfl Tryz.underlying48 sz3.h rfl rfl hz17) ?_
    refine dn ?_
    refine d1 7 ?_
    refine SP.Z3k see 0 rfl Tryz.underlying48 sz3.h rfl (by omega) rfl rfl rfl rfl (gg ?_)
    refine d1 8 ?_
    refine d1 9 ?_
    refine dz ?_
    exact lw ho hr (fun _ z => ⟨(l12.take (x14 : Int).toNat ++ l12.take (min (x14 : Int).toNat (l12.length - (x14 : Int).toNat)) ++ l12.drop ((x14 : Int).toNat + min (x14 : Int).toNat (l12.length - (x14 : Int).toNat))), (IntKind.i64.wrap (x14 + ((min (x14 : Int).toNat (l12.length - (x14 : Int).toNat) : Nat) : Int))), v13, z⟩)
   exact fin ho hr ▸ rt (sO [0])
  refine gg ?_
  refine SP.jn 3 [0, 6] 26 (.bool ((decide (t3.1 > 0)) || (decide (t3.2 > 9223372036854775807)))) ?_ ?_
  ·refine gg ?_
   refine cb ho (fun ho => ?_) fun ho => ?_
   ·cases ho
   exact mi ho hr (fun _ z => z)
  refine bb 23 (fun hq5 => ?_) fun hq5 => ?_
  ·exact jb (WL hq5)
  exact jb (WM hq5 rfl)
 refine gg ?_
 refine ci ho (fun ho => ?_) fun ho => ?_
 ·cases ho
 exact mi ho hr (fun _ z => z)
inductive Xp.S where
  | start
  | l1 (t2 : (List Ym) × Int) (l32 : List Int) (x34 : Int)
  | l2 (t2 : (List Ym) × Int) (x34 : Int) (x37 : Ym) (l45 : List Int) (x47 : Int)
def Xp.F (l_0 : List Z7) : Xp.S → Option (Xp.S ⊕ ((List Int) × Int))
  | .start => (Y5.f l_0).bind fun t2 => if t2.2 ≠ 0 then (some (.inr ([], t2.2))) else ((ZK.f [1] (l_0.length : Int)).bind fun t8 => some (.inl (.l1 t2 t8 0)))
  | .l1 t2 l32 x34 => if x34 < (t2.1.length : Int) then ((elt t2.1 x34).bind fun x37 => some (.inl (.l2 t2 x34 x37 l32 (IntKind.i64.wrap (x37.From + 1))))) else (some (.inr (l32, 0)))
  | .l2 t2 x34 x37 l45 x47 => if x47 ≤ x37.To then ((elt l45 x47).bind fun x50 => (elt l45 x47).bind fun x52 => some (.inl (.l2 t2 x34 x37 (l45.set x47.toNat (IntKind.i64.wrap (x50 * x37.Turns))) (IntKind.i64.wrap (x47 + 1))))) else (some (.inl (.l1 t2 l45 (IntKind.i64.wrap (x34 + 1)))))
def Xp.f (l_0 : List Z7) : Option ((List Int) × Int) := runF (Xp.F l_0) .start
theorem Xp.ok {l_0 Y2} (r) (H : Xp.f l_0 = some r) : Ok Tryz.prog 89 [Y2] [slP Za Y2 l_0, arrP ZV 0 tab0] fun v => HO.ex fun u0 : Value => HO.pand (v = .tuple #[u0, .int .i64 r.2]) (HO.seps [slO (kInt .i64) 3 u0 r.1]) := by
 refine oq 47 Tryz.func89 fun w hV see pb => ?_
 obtain ⟨m0, o, ho, hr⟩ := rn H
 refine k1 Y5.ok ho fun t2 ho v3 => ?_
 refine ci ho (fun ho => ?_) fun ho => ?_
 ·exact fin ho hr ▸ rt (fun _ h => St.selO [0] rfl rfl (St.addO (slO.nil (kInt .i64) 3) h))
 refine li (kInt .i64) [1] fun v6 => ?_
 obtain ⟨t8, hc, ho⟩ := bind_some ho
 refine SP.callKO see (caps := []) _ fn144.h rfl rfl rfl rfl (fun w2 hs => ZK.ok _ hc w2 (hp w2) (Sub.refl _) (aS (slO.read (St.own 0 rfl see.sub see.dj hs) (Sub.refl _) (Sub.refl _)) (All.nil _))) (fun v a a2 b ⟨v9, e, h⟩ => ⟨v9, e, (Sep.fcons (fun _ => slO.flip (fun _ _ _ _ h => h)) (fun _ => Sep.fnil)) h⟩) (SP.k1 fun v9 => ?_)
 clear hc
 refine gg ?_
 refine lo ho hr (fun z => ∃ l32 x34 v33, z (.l1 t2 l32 x34) [(6, v33), (22, v3), (23, .int .i64 (t2.1.length : Int)), (24, .int .i64 x34)] [slO (kInt .i64) 3 v33 l32, slO Wi 111 v3 t2.1]) (fun _ z => ⟨t8, 0, v9, z⟩) ?_ (sO [0, 2]) (hb := pe [arrP ZV 0 tab0])
 rintro _ _ _ ⟨l32, x34, v33, m35, o, _, _, ho, hr, h⟩
 refine en h ?_
 refine ci ho (fun ho => ?_) fun ho => ?_
 ·obtain ⟨x37, Z3L, ho⟩ := YG ho
  refine SP.indexW (fun w2 hw => slO.whole (St.own 1 rfl see.sub see.dj hw)) Tryz.underlying64 sz111.h Z3L.1 Z3L.2 rfl rfl rfl rfl (fun p36 Z9V => ?_)
  refine SP.val (Val.loadOA see 1 rfl Z3L.2 Z9V (fun _ _ e => e) Tryz.underlying111 rfl sz111.h rfl) rfl rfl rfl ?_
  refine al fun b38 => ?_
  refine st 0 ?_
  refine lo ho hr (fun z => ∃ l45 x47 v46, z (.l2 t2 x34 x37 l45 x47) [(6, v46), (8, .pointer (some ⟨b38, 0, none⟩)), (9, .int .i64 x47), (22, v3), (23, .int .i64 (t2.1.length : Int)), (24, .int .i64 x34)] [boxO b38 [.int .i64 x37.From, .int .i64 x37.To, .int .i64 x37.Turns] 111, slO (kInt .i64) 3 v46 l45, slO Wi 111 v3 t2.1]) (fun _ z => ⟨l32, (IntKind.i64.wrap (x37.From + 1)), v33, z⟩) ?_ (hb := pe [arrP ZV 0 tab0])
  rintro _ _ _ ⟨l45, x47, v46, m48, o, _, _, ho, hr, h⟩
  refine en h ?_
  refine ci ho (fun ho => ?_) fun ho => ?_
  ·refine dr ?_
   obtain ⟨x50, Z3M, ho⟩ := YG ho
   refine DA.ghost (fun w2 hw => let ⟨z, hz⟩ := ixC ((fun w2 hw => slO.whole (St.own 1 rfl see.sub see.dj hw)) w2 hw) Z3M.1 Z3M.2; ⟨z, hz, hw⟩) (fun p49 Z7t => ?_)
   have Z9W := Z7t.1
   refine DA.ph 0 6 ?_
   refine DT.tk 0 ?_
   refine DT.tk 1 ?_
   refine DT.tv 2 rfl (Val.Z0K Z7t Tryz.underlying48 sz3.h rfl rfl) ?_
   refine DT.tv 3 rfl (Val.loadW1 (off := 0) (k := (kInt .i64)) (fun w2 hw => slO.whole (St.own 1 rfl see.sub see.dj hw)) Z3M.2 Z9W (fun _ _ e => by subst e; rfl) Tryz.underlying3 rfl rfl) ?_
   refine DT.tk 4 ?_
   refine DT.tk 5 ?_
   refine dn ?_
   refine d1 6 ?_
   refine d1 7 ?_
   obtain ⟨x52, Z3N, ho⟩ := YG ho
   refine SP.indexW (fun w2 hw => slO.whole (St.own 1 rfl see.sub see.dj hw)) Tryz.underlying48 sz3.h Z3N.1 Z3N.2 rfl rfl rfl rfl (fun p51 Z9X => gg ?_)
   refine d1 8 ?_
   refine SP.storeO (z0 := IntKind.i64.wrap (x50 * x37.Turns)) (off := 0) (vs := [.int .i64 (IntKind.i64.wrap (x50 * x37.Turns))]) see 1 rfl Z3N.2 Z9X rfl rfl sz3.h rfl (fun a cs _ e => by subst e; rfl) rfl rfl rfl (gg ?_)
   refine dz ?_
   exact lw ho hr (fun _ z => ⟨(l45.set x47.toNat (IntKind.i64.wrap (x50 * x37.Turns))), (IntKind.i64.wrap (x47 + 1)), v46, z⟩)
  exact lw ho hr (fun _ z => ⟨l45, (IntKind.i64.wrap (x34 + 1)), v46, z⟩) (sO [1, 2])
 exact fin ho hr ▸ rt (sO [0])
inductive Wp.S where
  | start
  | l1 (x10 x11 : Int)
def Wp.F (V5 : List Ze) : Wp.S → Option (Wp.S ⊕ Int)
  | .start => some (.inl (.l1 0 0))
  | .l1 x10 x11 => if x11 < (V5.length : Int) then ((elt V5 x11).bind fun x15 => some (.inl (.l1 (if (x15.Kinds.length : Int) > x10 then (x15.Kinds.length : Int) else x10) (IntKind.i64.wrap (x11 + 1))))) else (some (.inr x10))
def Wp.f (V5 : List Ze) : Option Int := runF (Wp.F V5) .start
theorem Wp.ok {V5 Te} (r) (H : Wp.f V5 = some r) : Ok Tryz.prog 91 [Te] [slP ZC Te V5] fun v => HO.pure (v = .int .i64 r) := by
 refine oq 19 Tryz.func91 fun w hV see pb => ?_
 obtain ⟨m0, o, ho, hr⟩ := rn H
 refine lo ho hr (fun z => ∃ x10 x11, z (.l1 x10 x11) [(3, .int .i64 x10), (6, Te), (7, .int .i64 (V5.length : Int)), (8, .int .i64 x11)] []) (fun _ z => ⟨0, 0, z⟩) ?_
 rintro _ _ _ ⟨x10, x11, m12, o, _, _, ho, hr, h⟩
 refine en h ?_
 refine ci ho (fun ho => ?_) fun ho => ?_
 ·refine ip 0 ho fun x15 ho p13 => ?_
  refine ZC.load see 0 rfl Tryz.underlying119 rfl sz119.h rfl rfl rfl (fun v16 => ?_)
  refine al (h := fun _ => id) fun b18 => ?_
  refine sp 0 fun Z0c => ?_
  refine st 0 ?_
  refine SP.val (Val.max2 rfl rfl) rfl rfl rfl (gg ?_)
  exact lw ho hr (fun _ z => ⟨(if (x15.Kinds.length : Int) > x10 then (x15.Kinds.length : Int) else x10), (IntKind.i64.wrap (x11 + 1)), z⟩) (sO [])
 exact fin ho hr ▸ rt
def VA.f (XP WR Vf : Int) (WI UK : List Int) (Vg : Int) (WC : Bool) (WE WG WH : Int) (U5 : List Z7) (V9 : List Ze) (n_1 : Int) : Option (Int × Int × Int × Int × Bool × Int × Int × Int × (List Ze)) :=
  some (XP, if n_1 > WR then n_1 else WR, Vf, Vg, WC, WE, WG, WH, V9)
theorem VA.ok (XP WR Vf : Int) (WI UK : List Int) (Vg : Int) (WC : Bool) (WE WG WH : Int) (U5 : List Z7) (V9 : List Ze) (n_1 : Int) (Xz WJ Wq XM : Value) (r : Int × Int × Int × Int × Bool × Int × Int × Int × (List Ze)) (H : VA.f XP WR Vf WI UK Vg WC WE WG WH U5 V9 n_1 = some r) (w : World) (hV : Hp) (sV : Sub hV (hp w)) (h0 : slR (kInt .u8) hV Xz WI) (h1 : slR (kInt .u8) hV WJ UK) (h2 : slR Za hV Wq U5) (h3 : anyP.p hV) (b1 : Nat) (hA : Hp) (sA : Sub hA (hp w)) (dA : Dj hV hA) (hI : (HO.seps [boxO b1 [.int .i64 XP, .int .i64 WR, .int .i64 Vf, Xz, WJ, .int .u8 Vg, .bool WC, .int .i64 WE, .int .i64 WG, .int .i64 WH, Wq, XM] 140, slO ZC 119 XM V9]).p hV hA) :
    Trip Tryz.prog 90 [.pointer (some ⟨b1, 0, none⟩), .int .i64 n_1].toArray hA hV w (fun v => HO.pand (v = .tuple #[]) (HO.seps [HO.ex fun v19 : Value => HO.seps [boxO b1 [.int .i64 r.1, .int .i64 r.2.1, .int .i64 r.2.2.1, Xz, WJ, .int .u8 r.2.2.2.1, .bool r.2.2.2.2.1, .int .i64 r.2.2.2.2.2.1, .int .i64 r.2.2.2.2.2.2.1, .int .i64 r.2.2.2.2.2.2.2.1, Wq, v19] 140, slO ZC 119 v19 r.2.2.2.2.2.2.2.2]])) := by
 have see : Sees w hA hV := ⟨sV, dA⟩
 refine Trip.of (P := Tryz.prog) (n := ⟨15, []⟩) Tryz.func90 rfl ⟨rfl, rfl⟩ rfl (St.beginA (os := [boxO b1 [.int .i64 XP, .int .i64 WR, .int .i64 Vf, Xz, WJ, .int .u8 Vg, .bool WC, .int .i64 WE, .int .i64 WG, .int .i64 WH, Wq, XM] 140, slO ZC 119 XM V9]) sA (aS h0 (aS h1 (aS h2 (All.cons (x := anyP) h3 (All.nil _))))) hI) ?_
 have ho := H
 refine gg ?_
 refine SP.val (Val.max2 rfl rfl) rfl rfl rfl (gg ?_)
 refine st 0 ?_
 obtain rfl := Option.some.inj ho
 exact QE.over (rs := []) (vs := []) Tryz.results90 rfl trivial (fun w2 h => St.done (fun a b p s => ⟨rfl, s⟩) (St.shut XM (St.group [boxO b1 [.int .i64 XP, .int .i64 (if n_1 > WR then n_1 else WR), .int .i64 Vf, Xz, WJ, .int .u8 Vg, .bool WC, .int .i64 WE, .int .i64 WG, .int .i64 WH, Wq, XM] 140, slO ZC 119 XM V9] (St.selO [0, 1] rfl rfl h))))
def KR.f (XP WR Vf : Int) (WI UK : List Int) (Vg : Int) (WC : Bool) (WE WG WH : Int) (U5 : List Z7) (V9 : List Ze) (U2 TR TS : Int) : Option (Int × Int × Int × Int × Bool × Int × Int × Int × (List Ze)) :=
  some (IntKind.i64.wrap (XP + (IntKind.i64.wrap (U2 * TR))), WR, IntKind.i64.wrap (Vf + (IntKind.i64.wrap (U2 * TS))), Vg, WC, WE, WG, WH, V9)
theorem KR.ok (XP WR Vf : Int) (WI UK : List Int) (Vg : Int) (WC : Bool) (WE WG WH : Int) (U5 : List Z7) (V9 : List Ze) (U2 TR TS : Int) (Xz WJ Wq XM : Value) (r : Int × Int × Int × Int × Bool × Int × Int × Int × (List Ze)) (H : KR.f XP WR Vf WI UK Vg WC WE WG WH U5 V9 U2 TR TS = some r) (w : World) (hV : Hp) (sV : Sub hV (hp w)) (h0 : slR (kInt .u8) hV Xz WI) (h1 : slR (kInt .u8) hV WJ UK) (h2 : slR Za hV Wq U5) (h3 : anyP.p hV) (b1 : Nat) (hA : Hp) (sA : Sub hA (hp w)) (dA : Dj hV hA) (hI : (HO.seps [boxO b1 [.int .i64 XP, .int .i64 WR, .int .i64 Vf, Xz, WJ, .int .u8 Vg, .bool WC, .int .i64 WE, .int .i64 WG, .int .i64 WH, Wq, XM] 140, slO ZC 119 XM V9]).p hV hA) :
    Trip Tryz.prog 92 [.pointer (some ⟨b1, 0, none⟩), .int .i64 U2, .int .i64 TR, .int .i64 TS].toArray hA hV w (fun v => HO.pand (v = .tuple #[]) (HO.seps [HO.ex fun v19 : Value => HO.seps [boxO b1 [.int .i64 r.1, .int .i64 r.2.1, .int .i64 r.2.2.1, Xz, WJ, .int .u8 r.2.2.2.1, .bool r.2.2.2.2.1, .int .i64 r.2.2.2.2.2.1, .int .i64 r.2.2.2.2.2.2.1, .int .i64 r.2.2.2.2.2.2.2.1, Wq, v19] 140, slO ZC 119 v19 r.2.2.2.2.2.2.2.2]])) := by
 have see : Sees w hA hV := ⟨sV, dA⟩
 refine Trip.of (P := Tryz.prog) (n := ⟨32, []⟩) Tryz.func92 rfl ⟨rfl, rfl⟩ rfl (St.beginA (os := [boxO b1 [.int .i64 XP, .int .i64 WR, .int .i64 Vf, Xz, WJ, .int .u8 Vg, .bool WC, .int .i64 WE, .int .i64 WG, .int .i64 WH, Wq, XM] 140, slO ZC 119 XM V9]) sA (aS h0 (aS h1 (aS h2 (All.cons (x := anyP) h3 (All.nil _))))) hI) ?_
 have ho := H
 refine gg ?_
 refine st 0 ?_
 refine st 0 ?_
 obtain rfl := Option.some.inj ho
 exact QE.over (rs := []) (vs := []) Tryz.results92 rfl trivial (fun w2 h => St.done (fun a b p s => ⟨rfl, s⟩) (St.shut XM (St.group [boxO b1 [.int .i64 (IntKind.i64.wrap (XP + (IntKind.i64.wrap (U2 * TR)))), .int .i64 WR, .int .i64 (IntKind.i64.wrap (Vf + (IntKind.i64.wrap (U2 * TS)))), Xz, WJ, .int .u8 Vg, .bool WC, .int .i64 WE, .int .i64 WG, .int .i64 WH, Wq, XM] 140, slO ZC 119 XM V9] (St.selO [0, 1] rfl rfl h))))
def XE.f (XP WR Vf : Int) (WI UK : List Int) (Vg : Int) (WC : Bool) (WE WG WH : Int) (U5 : List Z7) (V9 : List Ze) (U2 TR TS : Int) : Option (Int × Int × Int × Int × Bool × Int × Int × Int) :=
  some (IntKind.i64.wrap (XP + (IntKind.i64.wrap (U2 * TR))), WR, IntKind.i64.wrap (Vf + (IntKind.i64.wrap (U2 * TS))), Vg, WC, WE, WG, WH)
theorem XE.ok (XP WR Vf : Int) (WI UK : List Int) (Vg : Int) (WC : Bool) (WE WG WH : Int) (U5 : List Z7) (V9 : List Ze) (U2 TR TS : Int) (Xz WJ Wq XM : Value) (r : Int × Int × Int × Int × Bool × Int × Int × Int) (H : XE.f XP WR Vf WI UK Vg WC WE WG WH U5 V9 U2 TR TS = some r) (w : World) (hV : Hp) (sV : Sub hV (hp w)) (h0 : slR (kInt .u8) hV Xz WI) (h1 : slR (kInt .u8) hV WJ UK) (h2 : slR Za hV Wq U5) (h3 : slR ZC hV XM V9) (b1 : Nat) (hA : Hp) (sA : Sub hA (hp w)) (dA : Dj hV hA) (hI : (boxO b1 [.int .i64 XP, .int .i64 WR, .int .i64 Vf, Xz, WJ, .int .u8 Vg, .bool WC, .int .i64 WE, .int .i64 WG, .int .i64 WH, Wq, XM] 140).p hV hA) :
    Trip Tryz.prog 92 [.pointer (some ⟨b1, 0, none⟩), .int .i64 U2, .int .i64 TR, .int .i64 TS].toArray hA hV w (fun v => HO.pand (v = .tuple #[]) (HO.seps [boxO b1 [.int .i64 r.1, .int .i64 r.2.1, .int .i64 r.2.2.1, Xz, WJ, .int .u8 r.2.2.2.1, .bool r.2.2.2.2.1, .int .i64 r.2.2.2.2.2.1, .int .i64 r.2.2.2.2.2.2.1, .int .i64 r.2.2.2.2.2.2.2, Wq, XM] 140])) := by
 have see : Sees w hA hV := ⟨sV, dA⟩
 refine Trip.of (P := Tryz.prog) (n := ⟨32, []⟩) Tryz.func92 rfl ⟨rfl, rfl⟩ rfl (St.beginA (os := [boxO b1 [.int .i64 XP, .int .i64 WR, .int .i64 Vf, Xz, WJ, .int .u8 Vg, .bool WC, .int .i64 WE, .int .i64 WG, .int .i64 WH, Wq, XM] 140]) sA (aS h0 (aS h1 (aS h2 (aS h3 (All.nil _))))) ⟨hA, em, Dj.XR _, Sub.refl _, Sub.em _, hI, trivial⟩) ?_
 have ho := H
 refine gg ?_
 refine st 0 ?_
 refine st 0 ?_
 obtain rfl := Option.some.inj ho
 exact QE.over (rs := []) (vs := []) Tryz.results92 rfl trivial (fun w2 h => St.done (fun a b p s => ⟨rfl, s⟩) (St.selO [0] rfl rfl h))
def VB.f (XP WR Vf : Int) (WI UK : List Int) (Vg : Int) (WC : Bool) (WE WG WH : Int) (U5 : List Z7) (V9 : List Ze) (n_1 : Int) : Option (Int × Int × Int × Int × Bool × Int × Int × Int) :=
  some (XP, if n_1 > WR then n_1 else WR, Vf, Vg, WC, WE, WG, WH)
theorem VB.ok (XP WR Vf : Int) (WI UK : List Int) (Vg : Int) (WC : Bool) (WE WG WH : Int) (U5 : List Z7) (V9 : List Ze) (n_1 : Int) (Xz WJ Wq XM : Value) (r : Int × Int × Int × Int × Bool × Int × Int × Int) (H : VB.f XP WR Vf WI UK Vg WC WE WG WH U5 V9 n_1 = some r) (w : World) (hV : Hp) (sV : Sub hV (hp w)) (h0 : slR (kInt .u8) hV Xz WI) (h1 : slR (kInt .u8) hV WJ UK) (h2 : slR Za hV Wq U5) (h3 : slR ZC hV XM V9) (b1 : Nat) (hA : Hp) (sA : Sub hA (hp w)) (dA : Dj hV hA) (hI : (boxO b1 [.int .i64 XP, .int .i64 WR, .int .i64 Vf, Xz, WJ, .int .u8 Vg, .bool WC, .int .i64 WE, .int .i64 WG, .int .i64 WH, Wq, XM] 140).p hV hA) :
    Trip Tryz.prog 90 [.pointer (some ⟨b1, 0, none⟩), .int .i64 n_1].toArray hA hV w (fun v => HO.pand (v = .tuple #[]) (HO.seps [boxO b1 [.int .i64 r.1, .int .i64 r.2.1, .int .i64 r.2.2.1, Xz, WJ, .int .u8 r.2.2.2.1, .bool r.2.2.2.2.1, .int .i64 r.2.2.2.2.2.1, .int .i64 r.2.2.2.2.2.2.1, .int .i64 r.2.2.2.2.2.2.2, Wq, XM] 140])) := by
 have see : Sees w hA hV := ⟨sV, dA⟩
 refine Trip.of (P := Tryz.prog) (n := ⟨15, []⟩) Tryz.func90 rfl ⟨rfl, rfl⟩ rfl (St.beginA (os := [boxO b1 [.int .i64 XP, .int .i64 WR, .int .i64 Vf, Xz, WJ, .int .u8 Vg, .bool WC, .int .i64 WE, .int .i64 WG, .int .i64 WH, Wq, XM] 140]) sA (aS h0 (aS h1 (aS h2 (aS h3 (All.nil _))))) ⟨hA, em, Dj.XR _, Sub.refl _, Sub.em _, hI, trivial⟩) ?_
 have ho := H
 refine gg ?_
 refine SP.val (Val.max2 rfl rfl) rfl rfl rfl (gg ?_)
 refine st 0 ?_
 obtain rfl := Option.some.inj ho
 exact QE.over (rs := []) (vs := []) Tryz.results90 rfl trivial (fun w2 h => St.done (fun a b p s => ⟨rfl, s⟩) (St.selO [0] rfl rfl h))
def Vj.f (Z1J Z1K Z1L : Int) (Z0O Z0P : List Int) (Z1M : Int) (Z0h : Bool) (Z0i Z0j Z0k : Int) (Z0l : List Z7) (Jy : List Ze) (a1 Z0Q : Int) (Uv : Zb) (K5 : Zq) : Option (Int × Int × Int × Int × Bool × Int × Int × Int) :=
  (XE.f Z1J Z1K Z1L Z0O Z0P Z1M Z0h Z0i Z0j Z0k Z0l Jy Z0Q K5.Fuel K5.Heap).bind fun t25 => (elt Jy a1).bind fun x28 => if x28.Reached = true then ((VB.f t25.1 t25.2.1 t25.2.2.1 Z0O Z0P t25.2.2.2.1 t25.2.2.2.2.1 t25.2.2.2.2.2.1 t25.2.2.2.2.2.2.1 t25.2.2.2.2.2.2.2 Z0l Jy (IntKind.i64.wrap ((IntKind.i64.wrap ((IntKind.i64.wrap ((IntKind.i64.wrap ((Z0O.length : Int) + (Z0P.length : Int))) + (x28.Kinds.length : Int))) - (Uv.Args.length : Int))) + K5.Stack))).bind fun t33 => some (t33.1, t33.2.1, t33.2.2.1, t33.2.2.2.1, t33.2.2.2.2.1, t33.2.2.2.2.2.1, t33.2.2.2.2.2.2.1, t33.2.2.2.2.2.2.2)) else (some (t25.1, t25.2.1, t25.2.2.1, t25.2.2.2.1, t25.2.2.2.2.1, t25.2.2.2.2.2.1, t25.2.2.2.2.2.2.1, t25.2.2.2.2.2.2.2))
theorem Vj.ok (Z1J Z1K Z1L : Int) (Z0O Z0P : List Int) (Z1M : Int) (Z0h : Bool) (Z0i Z0j Z0k : Int) (Z0l : List Z7) (Jy : List Ze) (a1 Z0Q : Int) (Uv : Zb) (K5 : Zq) (Z0R Z0S JM JN Jz Jd JA : Value) (r : Int × Int × Int × Int × Bool × Int × Int × Int) (H : Vj.f Z1J Z1K Z1L Z0O Z0P Z1M Z0h Z0i Z0j Z0k Z0l Jy a1 Z0Q Uv K5 = some r) (w : World) (hV : Hp) (sV : Sub hV (hp w)) (h0 : slR (kInt .u8) hV Z0R Z0O) (h1 : slR (kInt .u8) hV Z0S Z0P) (h2 : slR Za hV JM Z0l) (h3 : slR ZC hV JN Jy) (h4 : slR (kInt .u8) hV Jz Uv.Args) (h5 : slR (kInt .u8) hV Jd Uv.Locals) (h6 : slR Za hV JA Uv.Code) (b1 : Nat) (hA : Hp) (sA : Sub hA (hp w)) (dA : Dj hV hA) (hI : (boxO b1 [.int .i64 Z1J, .int .i64 Z1K, .int .i64 Z1L, Z0R, Z0S, .int .u8 Z1M, .bool Z0h, .int .i64 Z0i, .int .i64 Z0j, .int .i64 Z0k, JM, JN] 140).p hV hA) :
    Trip Tryz.prog 93 [.pointer (some ⟨b1, 0, none⟩), .int .i64 a1, .int .i64 Z0Q, .agg #[Jz, Jd, .int .u8 Uv.Result, .bool Uv.Reads, .int .i64 Uv.Fuel, .int .i64 Uv.Stack, .int .i64 Uv.Heap, JA], .agg #[.int .i64 K5.Fuel, .int .i64 K5.Stack, .int .i64 K5.Heap]].toArray hA hV w (fun v => HO.pand (v = .tuple #[]) (HO.seps [boxO b1 [.int .i64 r.1, .int .i64 r.2.1, .int .i64 r.2.2.1, Z0R, Z0S, .int .u8 r.2.2.2.1, .bool r.2.2.2.2.1, .int .i64 r.2.2.2.2.2.1, .int .i64 r.2.2.2.2.2.2.1, .int .i64 r.2.2.2.2.2.2.2, JM, JN] 140])) := by
 have see : Sees w hA hV := ⟨sV, dA⟩
 refine Trip.of (P := Tryz.prog) (n := ⟨57, []⟩) Tryz.func93 rfl ⟨rfl, rfl⟩ rfl (St.beginA (os := [boxO b1 [.int .i64 Z1J, .int .i64 Z1K, .int .i64 Z1L, Z0R, Z0S, .int .u8 Z1M, .bool Z0h, .int .i64 Z0i, .int .i64 Z0j, .int .i64 Z0k, JM, JN] 140]) sA (aS h0 (aS h1 (aS h2 (aS h3 (aS h4 (aS h5 (aS h6 (All.nil _)))))))) ⟨hA, em, Dj.XR _, Sub.refl _, Sub.em _, hI, trivial⟩) ?_
 have ho := H
 refine gg ?_
 refine bx fun b21 => ?_
 refine bx fun b23 => ?_
 refine dr ?_
 refine DA.ph 0 8 ?_
 refine DT.tk 0 ?_
 refine DT.tk 1 ?_
 refine DT.tk 2 ?_
 refine DT.tk 3 ?_
 refine DT.tk 4 ?_
 refine DT.tk 5 ?_
 refine DT.tk 6 ?_
 refine DT.tk 7 ?_
 refine dn ?_
 refine d1 (h := id) 8 ?_
 refine so [2, 0, 1] ?_
 obtain ⟨t25, hc, ho⟩ := bind_some ho
 refine SP.callA see (caps := []) _ fn92.h rfl rfl rfl rfl (fun w2 hP h1 sub s1 d1 ap hI => XE.ok _ _ _ _ _ _ _ _ _ _ _ _ _ _ _ _ _ _ _ _ hc w2 hP sub (ap.get 0 rfl) (ap.get 1 rfl) (ap.get 2 rfl) (ap.get 3 rfl) _ h1 s1 d1 hI) (SP.k0 ?_)
 clear hc
 refine gg ?_
 refine dz ?_
 refine ip 3 ho fun x28 ho p26 => ?_
 refine ZC.load see 0 rfl Tryz.underlying119 rfl sz119.h rfl rfl rfl (fun v29 => ?_)
 refine al (h := fun _ => id) fun b31 => ?_
 refine sp 0 fun Z5S => ?_
 refine st 0 ?_
 refine cb ho (fun ho => ?_) fun ho => ?_
 ·refine dr ?_
  refine DA.ph 0 27 ?_
  refine DT.tk 0 ?_
  refine DT.tk 1 ?_
  refine DT.tk 2 ?_
  refine DT.tk 3 ?_
  refine DT.tk 4 ?_
  refine DT.tk 5 ?_
  refine DT.tk 6 ?_
  refine DT.tk 7 ?_
  refine DT.tk 8 ?_
  refine DT.tk 9 ?_
  refine DT.tk 10 ?_
  refine DT.tk 11 ?_
  refine DT.tk 12 ?_
  refine DT.tk 13 ?_
  refine DT.tk 14 ?_
  refine DT.tk 15 ?_
  refine DT.tk 16 ?_
  refine DT.tk 17 ?_
  refine DT.tk 18 ?_
  refine DT.tk 19 ?_
  refine DT.tk 20 ?_
  refine DT.tk 21 ?_
  refine DT.tk 22 ?_
  refine DT.tk 23 ?_
  refine DT.tk 24 ?_
  refine DT.tk 25 ?_
  refine DT.tk 26 ?_
  refine dn ?_
  refine d1 (h := id) 27 ?_
  refine so [1, 0, 2, 3] ?_
  obtain ⟨t33, hc, ho⟩ := bind_some ho
  refine SP.callA see (caps := []) _ fn90.h rfl rfl rfl rfl (fun w2 hP h1 sub s1 d1 ap hI => VB.ok _ _ _ _ _ _ _ _ _ _ _ _ _ _ _ _ _ _ hc w2 hP sub (ap.get 2 rfl) (ap.get 3 rfl) (ap.get 4 rfl) (ap.get 5 rfl) _ h1 s1 d1 hI) (SP.k0 ?_)
  clear hc
  refine gg ?_
  refine dz ?_
  obtain rfl := Option.some.inj ho
  exact QE.over (rs := []) (vs := []) Tryz.results93 rfl trivial (fun w2 h => St.done (fun a b p s => ⟨rfl, s⟩) (St.selO [0] rfl rfl h))
 obtain rfl := Option.some.inj ho
 exact QE.over (rs := []) (vs := []) Tryz.results93 rfl trivial (fun w2 h => St.done (fun a b p s => ⟨rfl, s⟩) (St.selO [1] rfl rfl h))
inductive Yn.S where
  | start
  | l1 (x11 : Zb) (t23 : (List Int) × Int) (x125 x126 x127 x128 x129 : Int) (b130 : Bool) (x131 x132 x133 : Int) (l135 : List Ze)
def Yn.j1 (m_0 : Z9) (k_1 : Int) (Xf : List Zq) (x11 : Zb) (t23 : (List Int) × Int) (x125 : Int) (l135 : List Ze) (x169 x170 x171 x172 : Int) (b173 : Bool) (x174 x175 x176 : Int) : Option (Yn.S ⊕ Zq) :=
  some (.inl (.l1 x11 t23 (IntKind.i64.wrap (x125 + 1)) x169 x170 x171 x172 b173 x174 x175 x176 l135))
def Yn.j2 (m_0 : Z9) (k_1 : Int) (Xf : List Zq) (x11 : Zb) (t23 : (List Int) × Int) (x125 x126 x127 x128 x129 : Int) (b130 : Bool) (x131 x132 x133 : Int) (l135 : List Ze) (x140 : Z7) (x143 : Int) : Option (Yn.S ⊕ Zq) :=
  (elt t23.1 x125).bind fun x147 => (XE.f x126 x127 x128 x11.Args x11.Locals x129 b130 x131 x132 x133 x11.Code l135 x147 1 x143).bind fun t149 => if x140.Op = 30 then ((elt t23.1 x125).bind fun x152 => (elt m_0.Methods x140.A).bind fun x156 => (elt Xf x140.A).bind fun x166 => (Vj.f t149.1 t149.2.1 t149.2.2.1 x11.Args x11.Locals t149.2.2.2.1 t149.2.2.2.2.1 t149.2.2.2.2.2.1 t149.2.2.2.2.2.2.1 t149.2.2.2.2.2.2.2 x11.Code l135 x125 x152 x156 x166).bind fun t168 => Yn.j1 m_0 k_1 Xf x11 t23 x125 l135 t168.1 t168.2.1 t168.2.2.1 t168.2.2.2.1 t168.2.2.2.2.1 t168.2.2.2.2.2.1 t168.2.2.2.2.2.2.1 t168.2.2.2.2.2.2.2) else (Yn.j1 m_0 k_1 Xf x11 t23 x125 l135 t149.1 t149.2.1 t149.2.2.1 t149.2.2.2.1 t149.2.2.2.2.1 t149.2.2.2.2.2.1 t149.2.2.2.2.2.2.1 t149.2.2.2.2.2.2.2)
def Yn.F (m_0 : Z9) (k_1 : Int) (Xf : List Zq) : Yn.S → Option (Yn.S ⊕ Zq)
  | .start => (elt m_0.Methods k_1).bind fun x11 => (Yd.f m_0 k_1).bind fun t20 => (Xp.f x11.Code).bind fun t23 => (Wp.f t20.1).bind fun t28 => (VA.f 0 0 0 x11.Args x11.Locals x11.Result x11.Reads x11.Fuel x11.Stack x11.Heap x11.Code t20.1 (IntKind.i64.wrap ((IntKind.i64.wrap ((x11.Args.length : Int) + (x11.Locals.length : Int))) + t28))).bind fun t30 => some (.inl (.l1 x11 t23 0 t30.1 t30.2.1 t30.2.2.1 t30.2.2.2.1 t30.2.2.2.2.1 t30.2.2.2.2.2.1 t30.2.2.2.2.2.2.1 t30.2.2.2.2.2.2.2.1 t30.2.2.2.2.2.2.2.2))
  | .l1 x11 t23 x125 x126 x127 x128 x129 b130 x131 x132 x133 l135 => if x125 < (x11.Code.length : Int) then ((elt x11.Code x125).bind fun x140 => if x140.Op = 22 then (Yn.j2 m_0 k_1 Xf x11 t23 x125 x126 x127 x128 x129 b130 x131 x132 x133 l135 x140 x140.A) else (Yn.j2 m_0 k_1 Xf x11 t23 x125 x126 x127 x128 x129 b130 x131 x132 x133 l135 x140 0)) else (some (.inr (⟨x126, x127, x128⟩ : Zq)))
def Yn.f (m_0 : Z9) (k_1 : Int) (Xf : List Zq) : Option Zq := runF (Yn.F m_0 k_1 Xf) .start
theorem Yn.ok {m_0 k_1 Xf Z4 Z6 Z0 Wx} (r) (H : Yn.f m_0 k_1 Xf = some r) : Ok Tryz.prog 43 [.agg #[Z4, Z6, Z0, .int .i64 m_0.Zd], .int .i64 k_1, Wx] [slP Z5 Z4 m_0.Zj, slP Z5 Z6 m_0.Pool, slP Z8 Z0 m_0.Methods, slP Yh Wx Xf, arrP ZV 0 tab0] fun v => HO.pure (v = .agg #[.int .i64 r.Fuel, .int .i64 r.Stack, .int .i64 r.Heap]) := by
 refine oq 100 Tryz.func43 fun w hV see pb => ?_
 obtain ⟨m0, o, ho, hr⟩ := rn H
 refine bx fun b5 => ?_
 refine al fun b7 => ?_
 refine ip 2 ho fun x11 ho p9 => ?_
 refine Z8.load see 0 rfl Tryz.underlying34 rfl sz34.h rfl rfl rfl (fun v12 v14 v16 => ?_)
 refine al (h := fun _ => id) fun b18 => ?_
 refine sp (h := id) 0 fun Z1E => ?_
 refine sp (h := id) 1 fun Z1F => ?_
 refine sp 2 fun Z0c => ?_
 refine st 0 ?_
 refine k1 Yd.ok ho fun t20 ho v21 => ?_
 refine k1 Xp.ok ho fun t23 ho v24 => ?_
 refine sh 1 fun ZaP => ?_
 refine bd [.int .i64 0, .int .i64 0, .int .i64 0, v12, v14, .int .u8 x11.Result, .bool x11.Reads, .int .i64 x11.Fuel, .int .i64 x11.Stack, .int .i64 x11.Heap, v16, v21] ?_
 refine bx fun b26 => ?_
 refine dr ?_
 obtain ⟨t28, hc29, ho⟩ := bind_some ho
 refine DA.ph 0 13 ?_
 refine DT.tk 0 ?_
 refine DT.tk 1 ?_
 refine DT.tk 2 ?_
 refine DT.tk 3 ?_
 refine DT.tk 4 ?_
 refine DT.tk 5 ?_
 refine DT.tk 6 ?_
 refine DT.tk 7 ?_
 refine DT.tk 8 ?_
 refine DT.tk 9 ?_
 refine DT.tk 10 ?_
 refine DT.one 11 rfl (by kernel_rfl) rfl ?_
 refine SP.callVO see (caps := []) (.int .i64 t28) fn91.h rfl rfl rfl rfl (fun w2 hs => Wp.ok (V5 := t20.1) _ hc29 w2 (hp w2) (Sub.refl _) (aS (slO.read (St.own 2 rfl see.sub see.dj hs) (Sub.refl _) (Sub.refl _)) (All.nil _))) (gg ?_)
 refine QE.atT (fun w2 hw => hw) ?_
 refine DT.tk 12 ?_
 refine dn ?_
 refine d1 (h := id) 13 ?_
 refine so (h := id) [0, 2, 1, 3, 4, 5] ?_
 refine sg [boxO b26 [.int .i64 0, .int .i64 0, .int .i64 0, v12, v14, .int .u8 x11.Result, .bool x11.Reads, .int .i64 x11.Fuel, .int .i64 x11.Stack, .int .i64 x11.Heap, v16, v21] 140, slO ZC 119 v21 t20.1] ?_
 obtain ⟨t30, hc, ho⟩ := bind_some ho
 refine SP.callA see (caps := []) _ fn90.h rfl rfl rfl rfl (fun w2 hP h1 sub s1 d1 ap hI => VA.ok _ _ _ _ _ _ _ _ _ _ _ _ _ _ _ _ v21 _ hc w2 hP sub (ap.get 0 rfl) (ap.get 1 rfl) (ap.get 2 rfl) trivial _ h1 s1 d1 hI) (SP.k0 ?_)
 refine ex fun v32 => ?_
 refine ss ?_
 clear hc
 refine gg ?_
 refine dz ?_
 refine CP.W9 see 2 rfl ?_
 obtain rfl := Option.some.inj ho
 refine CP.loop (fun cl1 a w2 => ∃ x125 : Int, ∃ x126 : Int, ∃ x127 : Int, ∃ x128 : Int, ∃ x129 : Int, ∃ b130 : Bool, ∃ x131 : Int, ∃ x132 : Int, ∃ x133 : Int, ∃ l135 : List Ze, ∃ v136 : Value, cl1 ≤ m0 ∧ iter (Yn.F m_0 k_1 Xf) cl1 (.l1 x11 t23 x125 x126 x127 x128 x129 b130 x131 x132 x133 l135) = some r ∧ Env ⟨100, []⟩ [(2, Wx), (3, .pointer (some ⟨b5, 0, none⟩)), (6, .pointer (some ⟨b7, 0, none⟩)), (10, v24), (12, .pointer (some ⟨b26, 0, none⟩)), (52, v16), (53, .int .i64 (x11.Code.length : Int)), (54, .int .i64 x125)] a ∧ St w em hV [slP ZC v136 l135, slP (kInt .i64) v24 t23.1, slP (kInt .u8) v12 x11.Args, slP (kInt .u8) v14 x11.Locals, slP Za v16 x11.Code, slP Z5 Z4 m_0.Zj, slP Z5 Z6 m_0.Pool, slP Z8 Z0 m_0.Methods, slP Yh Wx Xf, arrP ZV 0 tab0] [boxO b26 [.int .i64 x126, .int .i64 x127, .int .i64 x128, v12, v14, .int .u8 x129, .bool b130, .int .i64 x131, .int .i64 x132, .int .i64 x133, v16, v136] 140, boxO b7 [.int .i64 0, .int .i64 0, .int .i64 0] 45, boxO b5 [Z4, Z6, Z0, .int .i64 m_0.Zd] 25] w2) m0 (fun a w2 ha hw => ⟨0, t30.1, t30.2.1, t30.2.2.1, t30.2.2.2.1, t30.2.2.2.2.1, t30.2.2.2.2.2.1, t30.2.2.2.2.2.2.1, t30.2.2.2.2.2.2.2.1, t30.2.2.2.2.2.2.2.2, v32, Nat.le_refl _, hr, ha.sub sb, (St.selP [0, 1, 2, 3, 4, 6, 7, 8, 9, 10] rfl (St.selO [0, 2, 3] rfl rfl (St.W9 hw 1 rfl see)))⟩) ?_
 clear hr
 rintro cl1 a w2 ⟨x125, x126, x127, x128, x129, b130, x131, x132, x133, l135, v136, Z1D, hi, ha, hw⟩
 obtain ⟨m137, o, ZaG, ho, hr⟩ := Ud hi
 refine CP.app ha hw ?_
 clear ha hw a w2 hi
 refine gg ?_
 refine ci (ht := id) ho (fun ho => ?_) fun ho => ?_
 ·refine go ?_
  refine ji hr (fun z => ∃ x169 x170 x171 x172 b173 x174 x175 x176, z (Yn.j1 m_0 k_1 Xf x11 t23 x125 l135 x169 x170 x171 x172 b173 x174 x175 x176) [(2, Wx), (3, .pointer (some ⟨b5, 0, none⟩)), (6, .pointer (some ⟨b7, 0, none⟩)), (10, v24), (12, .pointer (some ⟨b26, 0, none⟩)), (52, v16), (53, .int .i64 (x11.Code.length : Int)), (54, .int .i64 x125)] [boxO b26 [.int .i64 x169, .int .i64 x170, .int .i64 x171, v12, v14, .int .u8 x172, .bool b173, .int .i64 x174, .int .i64 x175, .int .i64 x176, v16, v136] 140, boxO b7 [.int .i64 0, .int .i64 0, .int .i64 0] 45, boxO b5 [Z4, Z6, Z0, .int .i64 m_0.Zd] 25]) ?_ ?_ (hb := pe [slP ZC v136 l135, slP (kInt .i64) v24 t23.1, slP (kInt .u8) v12 x11.Args, slP (kInt .u8) v14 x11.Locals, slP Za v16 x11.Code, slP Z5 Z4 m_0.Zj, slP Z5 Z6 m_0.Pool, slP Z8 Z0 m_0.Methods, slP Yh Wx Xf, arrP ZV 0 tab0])
  ·rintro _ _ ⟨x169, x170, x171, x172, b173, x174, x175, x176, m177, o, _, ho, hr, h⟩
   refine en h ?_
   obtain rfl := Option.some.inj ho
   exact QE.lower m177 (by omega) fun a w2 ha hw => ⟨(IntKind.i64.wrap (x125 + 1)), x169, x170, x171, x172, b173, x174, x175, x176, l135, v136, (by omega), hr, ha.sub sb, hw⟩
  refine gg ?_
  refine ip 4 ho fun x140 ho p138 => ?_
  refine ld 0 ?_
  refine al fun b141 => ?_
  refine st (h := id) 0 ?_
  refine go ?_
  refine ji hr (fun z => ∃ x143, z (Yn.j2 m_0 k_1 Xf x11 t23 x125 x126 x127 x128 x129 b130 x131 x132 x133 l135 x140 x143) [(2, Wx), (3, .pointer (some ⟨b5, 0, none⟩)), (6, .pointer (some ⟨b7, 0, none⟩)), (10, v24), (12, .pointer (some ⟨b26, 0, none⟩)), (13, .int .i64 x125), (14, .pointer (some ⟨b141, 0, none⟩)), (15, .int .i64 x143), (52, v16), (53, .int .i64 (x11.Code.length : Int)), (54, .int .i64 x125)] [boxO b141 [.int .u8 x140.Op, .int .i64 x140.A, .int .i64 x140.B] 43, boxO b26 [.int .i64 x126, .int .i64 x127, .int .i64 x128, v12, v14, .int .u8 x129, .bool b130, .int .i64 x131, .int .i64 x132, .int .i64 x133, v16, v136] 140, boxO b7 [.int .i64 0, .int .i64 0, .int .i64 0] 45, boxO b5 [Z4, Z6, Z0, .int .i64 m_0.Zd] 25]) ?_ ?_ (hb := pe [slP ZC v136 l135, slP (kInt .i64) v24 t23.1, slP (kInt .u8) v12 x11.Args, slP (kInt .u8) v14 x11.Locals, slP Za v16 x11.Code, slP Z5 Z4 m_0.Zj, slP Z5 Z6 m_0.Pool, slP Z8 Z0 m_0.Methods, slP Yh Wx Xf, arrP ZV 0 tab0])
  ·rintro _ _ ⟨x143, m144, o, _, ho, hr, h⟩
   refine en h ?_
   refine dr ?_
   refine ge 1 ho fun x147 ho p145 Z9m => ?_
   refine gu 0 ?_
   refine DA.ph 0 8 ?_
   refine DT.tk 0 ?_
   refine DT.tk 1 ?_
   refine DT.tk 2 ?_
   refine DT.tk 3 ?_
   refine DT.tk 4 ?_
   refine DT.tv 5 rfl (Val.ie rfl rfl Z9m) ?_
   refine tk 6 ?_
   refine DT.tk 7 ?_
   refine dn ?_
   refine d1 (h := id) 8 ?_
   refine so [1, 0, 2, 3] ?_
   obtain ⟨t149, hc, ho⟩ := bind_some ho
   refine SP.callA see (caps := []) _ fn92.h rfl rfl rfl rfl (fun w2 hP h1 sub s1 d1 ap hI => XE.ok _ _ _ _ _ _ _ _ _ _ _ _ _ _ _ _ _ _ _ _ hc w2 hP sub (ap.get 4 rfl) (ap.get 5 rfl) (ap.get 6 rfl) (ap.get 2 rfl) _ h1 s1 d1 hI) (SP.k0 ?_)
   clear hc
   refine gg ?_
   refine dz ?_
   refine ci ho (fun ho => ?_) fun ho => ?_
   ·refine dr ?_
    refine ge 3 ho fun x152 ho p150 Z9n => ?_
    refine gu 0 ?_
    refine ge 11 ho fun x156 ho p154 Z9o => ?_
    refine DA.ghost (fun w2 h => h.openE see 0 rfl (fun ((v157, v159, v161) : Value × Value × Value) => [v157, v159, .int .u8 x156.Result, .bool x156.Reads, .int .i64 x156.Fuel, .int .i64 x156.Stack, .int .i64 x156.Heap, v161]) (fun ((v157, v159, v161) : Value × Value × Value) => [slP (kInt .u8) v157 x156.Args, slP (kInt .u8) v159 x156.Locals, slP Za v161 x156.Code]) (fun h cs ⟨v157, v159, v161, e, p0, p1, p2⟩ => ⟨(v157, v159, v161), e, All.cons p0 (All.cons p1 (All.cons p2 (All.nil _)))⟩)) (fun z_ _ => ?_)
    obtain ⟨v157, v159, v161⟩ := z_
    refine ge 17 ho fun x166 ho p164 Z3w => ?_
    refine gu 0 ?_
    refine DA.ph 0 17 ?_
    refine DT.tk 0 ?_
    refine DT.tk 1 ?_
    refine DT.tk 2 ?_
    refine DT.tk 3 ?_
    refine DT.tv 4 rfl (Val.ie rfl rfl Z9n) ?_
    refine tk 5 ?_
    refine DT.tk 6 ?_
    refine DT.tk 7 ?_
    refine DT.tk 8 ?_
    refine DT.tk 9 ?_
    refine DT.tv 10 rfl (Val.ie rfl rfl Z9o) ?_
    refine tk 11 ?_
    refine DT.tk 12 ?_
    refine DT.tk 13 ?_
    refine DT.tk 14 ?_
    refine DT.tv 15 rfl (Val.ie rfl rfl Z3w) ?_
    refine tk 16 ?_
    refine dn ?_
    refine d1 17 ?_
    obtain ⟨t168, hc, ho⟩ := bind_some ho
    refine SP.callA see (caps := []) _ fn93.h rfl rfl rfl rfl (fun w2 hP h1 sub s1 d1 ap hI => Vj.ok _ _ _ _ _ _ _ _ _ _ _ _ _ _ _ _ _ _ _ _ _ _ _ _ hc w2 hP sub (ap.get 13 rfl) (ap.get 14 rfl) (ap.get 15 rfl) (ap.get 11 rfl) (ap.get 3 rfl) (ap.get 4 rfl) (ap.get 5 rfl) _ h1 s1 d1 hI) (SP.k0 ?_)
    clear hc
    refine gg ?_
    refine dz ?_
    exact mi ho hr (fun _ z => ⟨t168.1, t168.2.1, t168.2.2.1, t168.2.2.2.1, t168.2.2.2.2.1, t168.2.2.2.2.2.1, t168.2.2.2.2.2.2.1, t168.2.2.2.2.2.2.2, z⟩) (sO [0, 2, 3])
   exact mi ho hr (fun _ z => ⟨t149.1, t149.2.1, t149.2.2.1, t149.2.2.2.1, t149.2.2.2.2.1, t149.2.2.2.2.2.1, t149.2.2.2.2.2.2.1, t149.2.2.2.2.2.2.2, z⟩) (sO [0, 2, 3])
  refine gg ?_
  refine ci ho (fun ho => ?_) fun ho => ?_
  ·exact mi ho hr (fun _ z => ⟨x140.A, z⟩)
  exact mi ho hr (fun _ z => ⟨0, z⟩)
 refine st 1 ?_
 exact fin ho hr ▸ rt (rs := [.cell 6 45]) (vs := [.agg #[.int .i64 x126, .int .i64 x127, .int .i64 x128]]) (hv := ⟨RVs.cellA 1 rfl rfl Tryz.underlying45 rfl sz45.h, trivial⟩)
def Vk.f (n_0 TK Z0m : Int) : Option Bool :=
  some (((decide (n_0 ≥ 0)) && (decide (n_0 ≤ TK))) && (decide (n_0 ≤ Z0m)))
theorem Vk.ok {n_0 TK Z0m} (r) (ho : Vk.f n_0 TK Z0m = some r) : Ok Tryz.prog 94 [.int .i64 n_0, .int .i64 TK, .int .i64 Z0m] [] fun v => HO.pure (v = .bool r) := by
 refine oq 19 Tryz.func94 fun w hV see pb => ?_
 refine SP.jn 4 [0, 2] 13 (.bool ((decide (n_0 ≥ 0)) && (decide (n_0 ≤ TK)))) ?_ ?_
 ·refine gg ?_
  refine SP.jn 4 [] 18 (.bool (((decide (n_0 ≥ 0)) && (decide (n_0 ≤ TK))) && (decide (n_0 ≤ Z0m)))) ?_ ?_
  ·refine gg ?_
   exact Option.some.inj ho ▸ rt
  refine bb 14 (fun hq4 => ?_) fun hq4 => ?_
  ·exact jb (XT hq4 rfl)
  exact jb (XU hq4)
 refine bb 9 (fun hq2 => ?_) fun hq2 => ?_
 ·exact jb (XT hq2 rfl)
 exact jb (XU hq2)
def UA.f (c_0 : Zq) (x_1 : Zb) : Option Bool :=
  (Vk.f c_0.Fuel x_1.Fuel 1048576).bind fun t8 => (if t8 = true then ((Vk.f c_0.Stack x_1.Stack 256).bind fun t11 => some t11) else (some false)).bind fun t12 => (if t12 = true then ((Vk.f c_0.Heap x_1.Heap 1024).bind fun t15 => some t15) else (some false)).bind fun t16 => some t16
theorem UA.ok {c_0 x_1 Va WA Vb} (r) (ho : UA.f c_0 x_1 = some r) : Ok Tryz.prog 44 [.agg #[.int .i64 c_0.Fuel, .int .i64 c_0.Stack, .int .i64 c_0.Heap], .agg #[Va, WA, .int .u8 x_1.Result, .bool x_1.Reads, .int .i64 x_1.Fuel, .int .i64 x_1.Stack, .int .i64 x_1.Heap, Vb]] [slP (kInt .u8) Va x_1.Args, slP (kInt .u8) WA x_1.Locals, slP Za Vb x_1.Code] fun v => HO.pure (v = .bool r) := by
 refine oq 24 Tryz.func44 fun w hV see pb => ?_
 refine bx fun b4 => ?_
 refine bx fun b6 => ?_
 refine kv Vk.ok ho fun t8 ho => ?_
 obtain ⟨t12, Z5W, ho⟩ := bind_some ho
 refine SP.jn 6 [2, 3] 16 (.bool t12) ?_ ?_
 ·clear Z5W
  refine gg ?_
  obtain ⟨t16, Z5X, ho⟩ := bind_some ho
  refine SP.jn 6 [] 23 (.bool t16) ?_ ?_
  ·clear Z5X
   refine gg ?_
   exact Option.some.inj ho ▸ rt
  refine bc 17 Z5X (fun hq14 ho => ?_) fun hq14 ho => ?_
  ·refine kv Vk.ok ho fun t15 ho => ?_
   obtain rfl := Option.some.inj ho
   exact jn
  obtain rfl := Option.some.inj ho
  exact jn
 refine bc 10 Z5W (fun hq10 ho => ?_) fun hq10 ho => ?_
 ·refine kv Vk.ok ho fun t11 ho => ?_
  obtain rfl := Option.some.inj ho
  exact jn
 obtain rfl := Option.some.inj ho
 exact jn
inductive Yi.S where
  | start
  | l1 (t6 : (List Int) × Int) (x61 : Int)
  | l2 (t6 : (List Int) × Int) (l87 : List Zq) (x89 : Int)
def Yi.F (m_0 : Z9) : Yi.S → Option (Yi.S ⊕ ((List Zq) × Int))
  | .start => (Y3.f m_0).bind fun t6 => if t6.2 ≠ 0 then (some (.inr ([], t6.2))) else (some (.inl (.l1 t6 0)))
  | .l1 t6 x61 => if x61 < (m_0.Methods.length : Int) then ((V3.f m_0 x61).bind fun t63 => if t63 ≠ 0 then (some (.inr ([], t63))) else (some (.inl (.l1 t6 (IntKind.i64.wrap (x61 + 1)))))) else (if (0 : Int) ≤ (t6.1.length : Int) ∧ (24 : Int) * (t6.1.length : Int) ≤ 281474976710656 ∧ ((t6.1.length : Int) : Int) ≤ 9223372036854775807 then (some (.inl (.l2 t6 (List.replicate ((t6.1.length : Int) : Int).toNat Zq.zero : List Zq) 0))) else none)
  | .l2 t6 l87 x89 => if x89 < (t6.1.length : Int) then ((elt t6.1 x89).bind fun x92 => (Yn.f m_0 x92 l87).bind fun t93 => (elt l87 x92).bind fun x95 => (elt (l87.set x92.toNat t93) x92).bind fun x97 => (elt m_0.Methods x92).bind fun x100 => (UA.f x97 x100).bind fun t108 => if (!t108) = true then (some (.inr ([], 120))) else (some (.inl (.l2 t6 (l87.set x92.toNat t93) (IntKind.i64.wrap (x89 + 1)))))) else (some (.inr (l87, 0)))
def Yi.f (m_0 : Z9) : Option ((List Zq) × Int) := runF (Yi.F m_0) .start
theorem Yi.ok {m_0 Z4 Z6 Z0} (r) (H : Yi.f m_0 = some r) : Ok Tryz.prog 20 [.agg #[Z4, Z6, Z0, .int .i64 m_0.Zd]] [slP Z5 Z4 m_0.Zj, slP Z5 Z6 m_0.Pool, slP Z8 Z0 m_0.Methods, arrP ZV 0 tab0] fun v => HO.ex fun u0 : Value => HO.pand (v = .tuple #[u0, .int .i64 r.2]) (HO.seps [slO Yh 45 u0 r.1]) := by
 refine oq 61 Tryz.func20 fun w hV see pb => ?_
 obtain ⟨m0, o, ho, hr⟩ := rn H
 refine bx fun b4 => ?_
 refine k1 Y3.ok ho fun t6 ho v7 => ?_
 refine ci ho (fun ho => ?_) fun ho => ?_
 ·exact fin ho hr ▸ rt (fun _ h => St.selO [0] rfl rfl (St.addO (slO.nil Yh 45) h))
 refine lo ho hr (fun z => ∃ x61, z (.l1 t6 x61) [(1, .pointer (some ⟨b4, 0, none⟩)), (4, v7), (21, .int .i64 (m_0.Methods.length : Int)), (22, .int .i64 x61)] [slO (kInt .i64) 3 v7 t6.1, boxO b4 [Z4, Z6, Z0, .int .i64 m_0.Zd] 25]) (fun _ z => ⟨0, z⟩) ?_
 rintro _ _ _ ⟨x61, m62, o, _, _, ho, hr, h⟩
 refine en h ?_
 refine ci ho (fun ho => ?_) fun ho => ?_
 ·refine kv V3.ok ho fun t63 ho => ?_
  refine ci ho (fun ho => ?_) fun ho => ?_
  ·exact fin ho hr ▸ rt (fun _ h => St.selO [0] rfl rfl (St.addO (slO.nil Yh 45) h))
  exact lw ho hr (fun _ z => ⟨(IntKind.i64.wrap (x61 + 1)), z⟩)
 obtain ⟨hb, ho⟩ := X6 ho
 refine SP.makeS (k := Yh) (z := Zq.zero) Tryz.underlying37 inf45.h rfl rfl (fun _ => rfl) rfl rfl rfl rfl hb (fun v65 => ?_)
 clear hb
 refine gg ?_
 refine lo ho hr (fun z => ∃ l87 x89 v88, z (.l2 t6 l87 x89) [(1, .pointer (some ⟨b4, 0, none⟩)), (8, v88), (35, v7), (36, .int .i64 (t6.1.length : Int)), (37, .int .i64 x89)] [slO Yh 45 v88 l87, slO (kInt .i64) 3 v7 t6.1, boxO b4 [Z4, Z6, Z0, .int .i64 m_0.Zd] 25]) (fun _ z => ⟨(List.replicate ((t6.1.length : Int) : Int).toNat Zq.zero : List Zq), 0, v65, z⟩) ?_
 rintro _ _ _ ⟨l87, x89, v88, m90, o, _, _, ho, hr, h⟩
 refine en h ?_
 refine ci ho (fun ho => ?_) fun ho => ?_
 ·obtain ⟨x92, Z3O, ho⟩ := YG ho
  refine SP.indexW (fun w2 hw => slO.whole (St.own 1 rfl see.sub see.dj hw)) Tryz.underlying48 sz3.h Z3O.1 Z3O.2 rfl rfl rfl rfl (fun p91 Z1C => ?_)
  refine SP.val (Val.loadW1 (off := 0) (k := (kInt .i64)) (fun w2 hw => slO.whole (St.own 1 rfl see.sub see.dj hw)) Z3O.2 Z1C (fun _ _ e => by subst e; rfl) Tryz.underlying3 rfl rfl) rfl rfl rfl (gg ?_)
  obtain ⟨t93, hc, ho⟩ := bind_some ho
  refine SP.callVO see (caps := []) (.agg #[.int .i64 t93.Fuel, .int .i64 t93.Stack, .int .i64 t93.Heap]) fn43.h rfl rfl rfl rfl (fun w2 hs => Yn.ok _ hc w2 (hp w2) (Sub.refl _) (aS ((St.pers 0 rfl see.sub see.dj hs)) (aS ((St.pers 1 rfl see.sub see.dj hs)) (aS ((St.pers 2 rfl see.sub see.dj hs)) (aS (slO.read (St.own 0 rfl see.sub see.dj hs) (Sub.refl _) (Sub.refl _)) (All.cons ((St.pers 3 rfl see.sub see.dj hs)) (All.nil _))))))) ?_
  clear hc
  obtain ⟨x95, Z3P, ho⟩ := YG ho
  refine SP.indexW (fun w2 hw => slO.whole (St.own 0 rfl see.sub see.dj hw)) Tryz.underlying37 sz45.h Z3P.1 Z3P.2 rfl rfl rfl rfl (fun p94 Z5b => ?_)
  refine SP.storeO (z0 := t93) (off := 0) (vs := [.int .i64 t93.Fuel, .int .i64 t93.Stack, .int .i64 t93.Heap]) see 0 rfl Z3P.2 Z5b rfl rfl sz45.h rfl (fun a cs _ e => by subst e; rfl) rfl rfl rfl (gg ?_)
  refine dr ?_
  obtain ⟨x97, Z3Q, ho⟩ := YG ho
  refine DA.ghost (fun w2 hw => let ⟨z, hz⟩ := ixC ((fun w2 hw => slO.whole (St.own 0 rfl see.sub see.dj hw)) w2 hw) Z3Q.1 Z3Q.2; ⟨z, hz, hw⟩) (fun p96 Z7u => ?_)
  have Z9Y := Z7u.1
  refine ge 2 ho fun x100 ho p98 Z5c => ?_
  refine DA.ghost (fun w2 h => h.openE see 0 rfl (fun ((v101, v103, v105) : Value × Value × Value) => [v101, v103, .int .u8 x100.Result, .bool x100.Reads, .int .i64 x100.Fuel, .int .i64 x100.Stack, .int .i64 x100.Heap, v105]) (fun ((v101, v103, v105) : Value × Value × Value) => [slP (kInt .u8) v101 x100.Args, slP (kInt .u8) v103 x100.Locals, slP Za v105 x100.Code]) (fun h cs ⟨v101, v103, v105, e, p0, p1, p2⟩ => ⟨(v101, v103, v105), e, All.cons p0 (All.cons p1 (All.cons p2 (All.nil _)))⟩)) (fun z_ _ => ?_)
  obtain ⟨v101, v103, v105⟩ := z_
  refine DA.ph 0 9 ?_
  refine DT.tk 0 ?_
  refine DT.tk 1 ?_
  refine DT.tv 2 rfl (Val.Z0K Z7u Tryz.underlying37 sz45.h rfl rfl) ?_
  refine DT.tv 3 rfl (Val.loadOA see 0 rfl Z3Q.2 Z9Y (fun _ _ e => e) Tryz.underlying45 rfl sz45.h rfl) ?_
  refine DT.tk 4 ?_
  refine DT.tk 5 ?_
  refine DT.tk 6 ?_
  refine DT.tv 7 rfl (Val.ie rfl rfl Z5c) ?_
  refine tk 8 ?_
  refine dn ?_
  refine d1 9 ?_
  refine kv UA.ok ho fun t108 ho => ?_
  refine d1 10 ?_
  refine dz ?_
  refine cb ho (fun ho => ?_) fun ho => ?_
  ·exact fin ho hr ▸ rt (fun _ h => St.selO [0] rfl rfl (St.addO (slO.nil Yh 45) h))
  exact lw ho hr (fun _ z => ⟨(l87.set x92.toNat t93), (IntKind.i64.wrap (x89 + 1)), v88, z⟩)
 exact fin ho hr ▸ rt (sO [0])
def TL.f (m_0 : Z9) : Option Int :=
  (Yi.f m_0).bind fun t6 => some t6.2
theorem TL.ok {m_0 Z4 Z6 Z0} (r) (ho : TL.f m_0 = some r) : Ok Tryz.prog 15 [.agg #[Z4, Z6, Z0, .int .i64 m_0.Zd]] [slP Z5 Z4 m_0.Zj, slP Z5 Z6 m_0.Pool, slP Z8 Z0 m_0.Methods, arrP ZV 0 tab0] fun v => HO.pure (v = .int .i64 r) := by
 refine oq 11 Tryz.func15 fun w hV see pb => ?_
 refine bx fun b4 => ?_
 refine k1 Yi.ok ho fun t6 ho v7 => ?_
 exact Option.some.inj ho ▸ rt
inductive WY.S where
  | start
  | l1 (l18 : List (List Int)) (x20 : Int)
def WY.F (m_0 : Z9) : WY.S → Option (WY.S ⊕ ((List (List Int)) × Int))
  | .start => some (.inl (.l1 [] 0))
  | .l1 l18 x20 => if x20 < (m_0.Methods.length : Int) then ((Wz.f m_0 x20).bind fun t22 => if t22.2 ≠ 0 then (some (.inr ([], t22.2))) else (if (l18.length + [t22.1].length) * 24 ≤ 140737488355328 then (some (.inl (.l1 (l18 ++ [t22.1]) (IntKind.i64.wrap (x20 + 1))))) else none)) else (some (.inr (l18, 0)))
def WY.f (m_0 : Z9) : Option ((List (List Int)) × Int) := runF (WY.F m_0) .start
theorem WY.ok {m_0 Z4 Z6 Z0} (r) (H : WY.f m_0 = some r) : Ok Tryz.prog 37 [.agg #[Z4, Z6, Z0, .int .i64 m_0.Zd]] [slP Z5 Z4 m_0.Zj, slP Z5 Z6 m_0.Pool, slP Z8 Z0 m_0.Methods] fun v => HO.ex fun u0 : Value => HO.pand (v = .tuple #[u0, .int .i64 r.2]) (HO.seps [slO (kSl (kInt .i64)) 48 u0 r.1]) := by
 refine oq 29 Tryz.func37 fun w hV see pb => ?_
 obtain ⟨m0, o, ho, hr⟩ := rn H
 refine bx fun b4 => ?_
 refine lo ho hr (fun z => ∃ l18 x20 v19, z (.l1 l18 x20) [(1, .pointer (some ⟨b4, 0, none⟩)), (4, v19), (10, .int .i64 (m_0.Methods.length : Int)), (11, .int .i64 x20)] [slO (kSl (kInt .i64)) 48 v19 l18, boxO b4 [Z4, Z6, Z0, .int .i64 m_0.Zd] 25]) (fun _ z => ⟨[], 0, (.slice none 0 0), z⟩) ?_ (fun _ hw => (St.addO (slO.nil (kSl (kInt .i64)) 48) hw))
 rintro _ _ _ ⟨l18, x20, v19, m21, o, _, _, ho, hr, h⟩
 refine en h ?_
 refine ci ho (fun ho => ?_) fun ho => ?_
 ·obtain ⟨t22, hc, ho⟩ := bind_some ho
  refine SP.callK see (caps := []) _ fn23.h rfl rfl rfl rfl (fun w2 hP hs sub ap => Wz.ok _ _ _ _ _ _ hc w2 hP sub (ap.get 0 rfl) (ap.get 1 rfl) (ap.get 2 rfl)) (SP.k1 fun v23 => ?_)
  clear hc
  refine gg ?_
  refine ci ho (fun ho => ?_) fun ho => ?_
  ·exact fin ho hr ▸ rt (fun _ h => St.selO [0] rfl rfl (St.addO (slO.nil (kSl (kInt .i64)) 48) h))
  refine fz 0 ?_
  refine SP.litS (k := (kSl (kInt .i64))) (xs := [t22.1]) (vs := [v23]) Tryz.underlying71 inf48.h rfl rfl rfl rfl rfl rfl (fun _ ap => ⟨slR.cells1 (ap.get 0 rfl), trivial⟩) (fun _ ap => ⟨[v23], _, rfl, ⟨_, rfl, ap.get 0 rfl⟩, rfl⟩) rfl rfl rfl (fun v26 => ?_)
  refine fz 0 ?_
  refine ap 0 0 ho fun v28 ho => ?_
  exact lw ho hr (fun _ z => ⟨(l18 ++ [t22.1]), (IntKind.i64.wrap (x20 + 1)), v28, z⟩)
 exact fin ho hr ▸ rt (sO [0])
def UM.f (i_0 : Z7) : Option Bool :=
  some (decide (i_0.Op = 5))
theorem UM.ok {i_0} (r) (ho : UM.f i_0 = some r) : Ok Tryz.prog 86 [.agg #[.int .u8 i_0.Op, .int .i64 i_0.A, .int .i64 i_0.B]] [] fun v => HO.pure (v = .bool r) := by
 refine oq 6 Tryz.func86 fun w hV see pb => ?_
 refine bx fun b1 => ?_
 exact Option.some.inj ho ▸ rt
inductive ZR.S where
  | start
  | l1 (x7 : Int)
def ZR.F (s_0 : List Z7) : ZR.S → Option (ZR.S ⊕ Int)
  | .start => some (.inl (.l1 0))
  | .l1 x7 => if x7 < (s_0.length : Int) then ((elt s_0 x7).bind fun x11 => (UM.f x11).bind fun t12 => if t12 = true then (some (.inr x7)) else (some (.inl (.l1 (IntKind.i64.wrap (x7 + 1)))))) else (some (.inr (-1)))
def ZR.f (s_0 : List Z7) : Option Int := runF (ZR.F s_0) .start
theorem ZR.ok {s_0 Yz} (r) (H : ZR.f s_0 = some r) : Ok Tryz.prog 128 [Yz, .func (.func 86) #[] #[]] [slP Za Yz s_0] fun v => HO.pure (v = .int .i64 r) := by
 refine oq 19 Tryz.func128 fun w hV see pb => ?_
 obtain ⟨m0, o, ho, hr⟩ := rn H
 refine lo ho hr (fun z => ∃ x7, z (.l1 x7) [(0, Yz), (1, .func (.func 86) #[] #[]), (7, .int .i64 (s_0.length : Int)), (8, .int .i64 x7)] []) (fun _ z => ⟨0, z⟩) ?_
 rintro _ _ _ ⟨x7, m8, o, _, _, ho, hr, h⟩
 refine en h ?_
 refine ci ho (fun ho => ?_) fun ho => ?_
 ·refine ip 0 ho fun x11 ho p9 => ?_
  refine ld 0 ?_
  refine kv UM.ok ho fun t12 ho => ?_
  refine cb ho (fun ho => ?_) fun ho => ?_
  ·exact fin ho hr ▸ rt
  exact lw ho hr (fun _ z => ⟨(IntKind.i64.wrap (x7 + 1)), z⟩)
 exact fin ho hr ▸ rt
def Xw.f (s_0 : List Z7) : Option Bool :=
  (ZR.f s_0).bind fun t2 => some (decide (t2 ≥ 0))
theorem Xw.ok {s_0 Yz} (r) (ho : Xw.f s_0 = some r) : Ok Tryz.prog 66 [Yz, .func (.func 86) #[] #[]] [slP Za Yz s_0] fun v => HO.pure (v = .bool r) := by
 refine oq 9 Tryz.func66 fun w hV see pb => ?_
 refine kv ZR.ok ho fun t2 ho => ?_
 exact Option.some.inj ho ▸ rt
def UY.f (x_0 : Zb) : Option Bool :=
  (Xw.f x_0.Code).bind fun t6 => some t6
theorem UY.ok {x_0 VT Vm VU} (r) (ho : UY.f x_0 = some r) : Ok Tryz.prog 39 [.agg #[VT, Vm, .int .u8 x_0.Result, .bool x_0.Reads, .int .i64 x_0.Fuel, .int .i64 x_0.Stack, .int .i64 x_0.Heap, VU]] [slP (kInt .u8) VT x_0.Args, slP (kInt .u8) Vm x_0.Locals, slP Za VU x_0.Code] fun v => HO.pure (v = .bool r) := by
 refine oq 6 Tryz.func39 fun w hV see pb => ?_
 refine bx fun b4 => ?_
 refine kv Xw.ok ho fun t6 ho => ?_
 exact Option.some.inj ho ▸ rt
def Uj.f (n_0 : Int) (Ta Tc : List Zn) (TP : List Zb) (TY : Int) : Option Bool :=
  (elt TP n_0).bind fun x12 => some (!x12.Reads)
theorem Uj.ok {n_0 Ta Tc TP TY Kl Km Kq b8} (r) (ho : Uj.f n_0 Ta Tc TP TY = some r) : Ok Tryz.prog 38 [.int .i64 n_0, .pointer (some ⟨b8, 0, none⟩)] [slP Z5 Kl Ta, slP Z5 Km Tc, slP Z8 Kq TP, boxP b8 [Kl, Km, Kq, .int .i64 TY] 25] fun v => HO.pure (v = .bool r) := by
 refine oq (h := fun _ _ _ => id) 11 Tryz.func38 fun w hV see pb => ?_
 refine CP.seq ?_
 refine CP.region ?_
 refine SP.val (Val.assign rfl) rfl rfl rfl ?_
 refine SP.nil ?_
 refine QE.then ?_
 refine CP.seq ?_
 refine CP.region ?_
 refine SP.val (Val.fieldAddr Tryz.underlying25 rfl sz23.h rfl) rfl rfl rfl ?_
 refine SP.val (Val.loadB1 see 3 rfl Tryz.underlying23 rfl rfl rfl) rfl rfl rfl (gg ?_)
 refine ip 2 ho fun x12 ho p10 => ?_
 refine SP.fieldP see 0 rfl Tryz.underlying34 rfl sz4.h Z8.JI rfl rfl rfl (fun p13 => ?_)
 refine SP.val (Val.loadP1 see 0 rfl (fun _ _ e => e) Tryz.underlying4 rfl rfl) rfl rfl rfl (gg ?_)
 exact Option.some.inj ho ▸ rt
inductive Yt.S where
  | start
  | l1 (x16 : Int)
def Yt.F (s_0 : List Int) (Wn Wo : List Zn) (Vo : List Zb) (Vp : Int) : Yt.S → Option (Yt.S ⊕ Int)
  | .start => some (.inl (.l1 0))
  | .l1 x16 => if x16 < (s_0.length : Int) then ((elt s_0 x16).bind fun x20 => (Uj.f x20 Wn Wo Vo Vp).bind fun t21 => if t21 = true then (some (.inr x16)) else (some (.inl (.l1 (IntKind.i64.wrap (x16 + 1)))))) else (some (.inr (-1)))
def Yt.f (s_0 : List Int) (Wn Wo : List Zn) (Vo : List Zb) (Vp : Int) : Option Int := runF (Yt.F s_0 Wn Wo Vo Vp) .start
theorem Yt.ok {s_0 Wn Wo Vo Vp Yz Us Ut Uu b9} (r) (H : Yt.f s_0 Wn Wo Vo Vp = some r) : Ok Tryz.prog 87 [Yz, .func (.func 38) #[] #[.pointer (some ⟨b9, 0, none⟩)]] [slP (kInt .i64) Yz s_0, slP Z5 Us Wn, slP Z5 Ut Wo, slP Z8 Uu Vo, boxP b9 [Us, Ut, Uu, .int .i64 Vp] 25] fun v => HO.pure (v = .int .i64 r) := by
 refine oq 19 Tryz.func87 fun w hV see pb => ?_
 obtain ⟨m0, o, ho, hr⟩ := rn H
 refine lo ho hr (fun z => ∃ x16, z (.l1 x16) [(0, Yz), (1, .func (.func 38) #[] #[.pointer (some ⟨b9, 0, none⟩)]), (7, .int .i64 (s_0.length : Int)), (8, .int .i64 x16)] []) (fun _ z => ⟨0, z⟩) ?_
 rintro _ _ _ ⟨x16, m17, o, _, _, ho, hr, h⟩
 refine en h ?_
 refine ci ho (fun ho => ?_) fun ho => ?_
 ·refine ip 0 ho fun x20 ho p18 => ?_
  refine SP.val (Val.loadP1 see 0 rfl (fun _ _ e => e) Tryz.underlying3 rfl rfl) rfl rfl rfl ?_
  refine kv Uj.ok ho fun t21 ho => ?_
  refine cb ho (fun ho => ?_) fun ho => ?_
  ·exact fin ho hr ▸ rt
  exact lw ho hr (fun _ z => ⟨(IntKind.i64.wrap (x16 + 1)), z⟩)
 exact fin ho hr ▸ rt
def XK.f (s_0 : List Int) (Wn Wo : List Zn) (Vo : List Zb) (Vp : Int) : Option Bool :=
  (Yt.f s_0 Wn Wo Vo Vp).bind fun t11 => some (decide (t11 ≥ 0))
theorem XK.ok {s_0 Wn Wo Vo Vp Yz Us Ut Uu b9} (r) (ho : XK.f s_0 Wn Wo Vo Vp = some r) : Ok Tryz.prog 40 [Yz, .func (.func 38) #[] #[.pointer (some ⟨b9, 0, none⟩)]] [slP (kInt .i64) Yz s_0, slP Z5 Us Wn, slP Z5 Ut Wo, slP Z8 Uu Vo, boxP b9 [Us, Ut, Uu, .int .i64 Vp] 25] fun v => HO.pure (v = .bool r) := by
 refine oq 9 Tryz.func40 fun w hV see pb => ?_
 refine kv Yt.ok ho fun t11 ho => ?_
 exact Option.some.inj ho ▸ rt
inductive Wv.S where
  | start
  | l1 (t6 : (List (List Int)) × Int) (x79 : Int)
def Wv.F (m_0 : Z9) : Wv.S → Option (Wv.S ⊕ Int)
  | .start => (WY.f m_0).bind fun t6 => if t6.2 ≠ 0 then (some (.inr t6.2)) else (some (.inl (.l1 t6 0)))
  | .l1 t6 x79 => if x79 < (m_0.Methods.length : Int) then ((elt m_0.Methods x79).bind fun x83 => (if x83.Reads = true then ((UY.f x83).bind fun t94 => (if t94 = true then (some true) else ((elt t6.1 x79).bind fun x98 => (XK.f x98 m_0.Zj m_0.Pool m_0.Methods m_0.Zd).bind fun t101 => some t101)).bind fun t102 => some t102) else (some false)).bind fun t103 => if t103 = true then (some (.inr 130)) else (some (.inl (.l1 t6 (IntKind.i64.wrap (x79 + 1)))))) else (some (.inr 0))
def Wv.f (m_0 : Z9) : Option Int := runF (Wv.F m_0) .start
theorem Wv.ok {m_0 Z4 Z6 Z0} (r) (H : Wv.f m_0 = some r) : Ok Tryz.prog 16 [.agg #[Z4, Z6, Z0, .int .i64 m_0.Zd]] [slP Z5 Z4 m_0.Zj, slP Z5 Z6 m_0.Pool, slP Z8 Z0 m_0.Methods] fun v => HO.pure (v = .int .i64 r) := by
 refine oq 40 Tryz.func16 fun w hV see pb => ?_
 obtain ⟨m0, o, ho, hr⟩ := rn H
 refine bx fun b4 => ?_
 refine k1 WY.ok ho fun t6 ho v7 => ?_
 refine ci ho (fun ho => ?_) fun ho => ?_
 ·exact fin ho hr ▸ rt
 refine CP.Ky see 1 rfl ?_
 refine lo ho hr (fun z => ∃ x79, z (.l1 t6 x79) [(1, .pointer (some ⟨b4, 0, none⟩)), (3, v7), (17, Z0), (18, .int .i64 (m_0.Methods.length : Int)), (19, .int .i64 x79)] [slO (kSl (kInt .i64)) 48 v7 t6.1]) (fun _ z => ⟨0, z⟩) ?_ (hb := pe [boxP b4 [Z4, Z6, Z0, .int .i64 m_0.Zd] 25, slP Z5 Z4 m_0.Zj, slP Z5 Z6 m_0.Pool, slP Z8 Z0 m_0.Methods])
 rintro _ _ _ ⟨x79, m80, o, _, _, ho, hr, h⟩
 refine en h ?_
 refine ci ho (fun ho => ?_) fun ho => ?_
 ·refine ip 3 ho fun x83 ho p81 => ?_
  refine Z8.load see 0 rfl Tryz.underlying34 rfl sz34.h rfl rfl rfl (fun v84 v86 v88 => ?_)
  refine al fun b90 => ?_
  refine sp (h := id) 0 fun ZaQ => ?_
  refine sp (h := id) 1 fun ZaR => ?_
  refine sp 2 fun ZaS => ?_
  refine st 0 ?_
  refine SP.val (Val.makeFunc (us := []) (vs := [.pointer (some ⟨b4, 0, none⟩)]) rfl rfl) rfl rfl rfl (gg ?_)
  obtain ⟨t103, Z4O, ho⟩ := bind_some ho
  refine SP.jn 11 [1, 3, 17, 18, 19] 38 (.bool t103) ?_ ?_
  ·clear Z4O
   refine gg ?_
   refine cb ho (fun ho => ?_) fun ho => ?_
   ·exact fin ho hr ▸ rt
   exact lw ho hr (fun _ z => ⟨(IntKind.i64.wrap (x79 + 1)), z⟩) (sO [1])
  refine bc 27 Z4O (fun hq93 ho => ?_) fun hq93 ho => ?_
  ·refine kv UY.ok ho fun t94 ho => ?_
   obtain ⟨t102, Z4P, ho⟩ := bind_some ho
   refine SP.jn 7 [1, 3, 17, 18, 19, 27, 28, 29, 30] 37 (.bool t102) ?_ ?_
   ·clear Z4P
    refine gg ?_
    obtain rfl := Option.some.inj ho
    exact jn
   refine bc 30 Z4P (fun hq96 ho => ?_) fun hq96 ho => ?_
   ·obtain rfl := Option.some.inj ho
    exact QE.jn (s := ⟨rfl, rfl, rfl, rfl, rfl, rfl, rfl, rfl, rfl, congrArg (fun z => some (Value.bool z)) hq96.symm, trivial⟩) fun w2 hw => hw
   obtain ⟨x98, Z3R, ho⟩ := YG ho
   refine SP.indexW (fun w2 hw => slO.whole (St.own 1 rfl see.sub see.dj hw)) Tryz.underlying71 sz48.h Z3R.1 Z3R.2 rfl rfl rfl rfl (fun p97 Z5m => ?_)
   refine SP.loadOS (j := x79) see 1 0 rfl Z3R.2 Z5m (fun _ _ ⟨v0_, e, p0_⟩ => ⟨v0_, by subst e; rfl, p0_⟩) Tryz.underlying48 rfl rfl rfl (fun v99 => gg ?_)
   refine kv XK.ok ho fun t101 ho => ?_
   obtain rfl := Option.some.inj ho
   exact QE.jn (s := ⟨rfl, rfl, rfl, rfl, rfl, rfl, rfl, rfl, rfl, congrArg (fun z => some (Value.bool z)) hq96.symm, trivial⟩) fun w2 hw => (St.selP [1, 2, 3, 4, 5, 6, 7, 8] rfl hw)
  obtain rfl := Option.some.inj ho
  exact jn
 exact fin ho hr ▸ rt
def Xy.j2 (m_0 : Z9) (x25 x26 : Int) : Option (Int × Int) :=
  some (x25, x26)
def Xy.f (m_0 : Z9) : Option (Int × Int) :=
  (U8.f ).bind fun t6 => (TJ.f m_0).bind fun t9 => if t9 ≠ 0 then (Xy.j2 m_0 0 t9) else ((Ur.f m_0).bind fun t12 => if t12 ≠ 0 then (Xy.j2 m_0 1 t12) else ((Tz.f m_0).bind fun t15 => if t15 ≠ 0 then (Xy.j2 m_0 2 t15) else ((UW.f m_0).bind fun t18 => if t18 ≠ 0 then (Xy.j2 m_0 3 t18) else ((TL.f m_0).bind fun t21 => if t21 ≠ 0 then (Xy.j2 m_0 4 t21) else ((Wv.f m_0).bind fun t24 => if t24 ≠ 0 then (Xy.j2 m_0 5 t24) else (Xy.j2 m_0 (-1) t24))))))
theorem Xy.ok {m_0 Z4 Z6 Z0} (r) (ho : Xy.f m_0 = some r) : Ok Tryz.prog 41 [.agg #[Z4, Z6, Z0, .int .i64 m_0.Zd]] [slP Z5 Z4 m_0.Zj, slP Z5 Z6 m_0.Pool, slP Z8 Z0 m_0.Methods, arrP ZV 0 tab0] fun v => HO.pure (v = .tuple #[.int .i64 r.1, .int .i64 r.2]) := by
 refine oq 23 Tryz.func41 fun w hV see pb => ?_
 refine bx fun b4 => ?_
 refine CP.scope 0 (fun _ _ => False) rfl (fun _ _ _ h => h) (fun _ _ h => h.elim) (gg ?_)
 refine CP.label ?_
 refine go ?_
 refine oi r (fun z => ∃ x25 x26, z (Xy.j2 m_0 x25 x26) [(4, .int .i64 x25), (5, .int .i64 x26)] []) ?_ ?_ (hb := pe [arrP ZV 0 tab0])
 ·rintro _ _ ⟨x25, x26, ho, h⟩
  refine en h ?_
  refine QE.scopeX rfl ?_
  exact Option.some.inj ho ▸ rt
 refine gg ?_
 obtain ⟨t6, hc, ho⟩ := bind_some (x := U8.f ) ho
 refine SP.callV see (caps := []) (.agg #[.func (.func 10) #[] #[], .func (.func 142) #[] #[], .func (.func 143) #[] #[], .func (.func 14) #[] #[], .func (.func 15) #[] #[], .func (.func 16) #[] #[]]) fn88.h rfl rfl rfl rfl (fun w2 hP hs sub ap => U8.ok _ hc w2 hP sub (All.nil _)) ?_
 clear hc
 refine gg ?_
 refine CP.rounds 8 ?_
 refine LP.step ?_
 refine CP.seq ?_
 refine CP.region ?_
 refine cs (.bool true) ?_
 refine CP.condT rfl rfl (gg ?_)
 refine SP.val (Val.TG (c := [.func (.func 10) #[] #[]]) 0 Tryz.underlying133 Tryz.underlying132 rfl sz132.h rfl rfl rfl rfl) rfl rfl rfl ?_
 refine al fun b7 => ?_
 refine st 0 ?_
 refine kv TJ.ok ho fun t9 ho => ?_
 refine ci (hf := id) ho (fun ho => ?_) fun ho => ?_
 ·exact mo ho (fun _ z => ⟨0, t9, z⟩) (sO [])
 refine CP.skip ?_
 refine QE.blockN ?_
 refine QE.then ?_
 refine CP.region ?_
 refine cs (.int .i64 1) ?_
 refine QE.round ?_
 refine LP.step ?_
 refine CP.seq ?_
 refine CP.region ?_
 refine cs (.bool true) ?_
 refine CP.condT rfl rfl (gg ?_)
 refine SP.val (Val.TG (c := [.func (.func 142) #[] #[]]) 1 Tryz.underlying133 Tryz.underlying132 rfl sz132.h rfl rfl rfl rfl) rfl rfl rfl ?_
 refine al fun b10 => ?_
 refine st 0 ?_
 refine kv Ur.ok ho fun t12 ho => ?_
 refine ci (hf := id) ho (fun ho => ?_) fun ho => ?_
 ·exact mo ho (fun _ z => ⟨1, t12, z⟩) (sO [])
 refine CP.skip ?_
 refine QE.blockN ?_
 refine QE.then ?_
 refine CP.region ?_
 refine cs (.int .i64 2) ?_
 refine QE.round ?_
 refine LP.step ?_
 refine CP.seq ?_
 refine CP.region ?_
 refine cs (.bool true) ?_
 refine CP.condT rfl rfl (gg ?_)
 refine SP.val (Val.TG (c := [.func (.func 143) #[] #[]]) 2 Tryz.underlying133 Tryz.underlying132 rfl sz132.h rfl rfl rfl rfl) rfl rfl rfl ?_
 refine al fun b13 => ?_
 refine st 0 ?_
 refine kv Tz.ok ho fun t15 ho => ?_
 refine ci (hf := id) ho (fun ho => ?_) fun ho => ?_
 ·exact mo ho (fun _ z => ⟨2, t15, z⟩) (sO [])
 refine CP.skip ?_
 refine QE.blockN ?_
 refine QE.then ?_
 refine CP.region ?_
 refine cs (.int .i64 3) ?_
 refine QE.round ?_
 refine LP.step ?_
 refine CP.seq ?_
 refine CP.region ?_
 refine cs (.bool true) ?_
 refine CP.condT rfl rfl (gg ?_)
 refine SP.val (Val.TG (c := [.func (.func 14) #[] #[]]) 3 Tryz.underlying133 Tryz.underlying132 rfl sz132.h rfl rfl rfl rfl) rfl rfl rfl ?_
 refine al fun b16 => ?_
 refine st 0 ?_
 refine kv UW.ok ho fun t18 ho => ?_
 refine ci (hf := id) ho (fun ho => ?_) fun ho => ?_
 ·exact mo ho (fun _ z => ⟨3, t18, z⟩) (sO [])
 refine CP.skip ?_
 refine QE.blockN ?_
 refine QE.then ?_
 refine CP.region ?_
 refine cs (.int .i64 4) ?_
 refine QE.round ?_
 refine LP.step ?_
 refine CP.seq ?_
 refine CP.region ?_
 refine cs (.bool true) ?_
 refine CP.condT rfl rfl (gg ?_)
 refine SP.val (Val.TG (c := [.func (.func 15) #[] #[]]) 4 Tryz.underlying133 Tryz.underlying132 rfl sz132.h rfl rfl rfl rfl) rfl rfl rfl ?_
 refine al fun b19 => ?_
 refine st 0 ?_
 refine kv TL.ok ho fun t21 ho => ?_
 refine ci (hf := id) ho (fun ho => ?_) fun ho => ?_
 ·exact mo ho (fun _ z => ⟨4, t21, z⟩) (sO [])
 refine CP.skip ?_
 refine QE.blockN ?_
 refine QE.then ?_
 refine CP.region ?_
 refine cs (.int .i64 5) ?_
 refine QE.round ?_
 refine LP.step ?_
 refine CP.seq ?_
 refine CP.region ?_
 refine cs (.bool true) ?_
 refine CP.condT rfl rfl (gg ?_)
 refine SP.val (Val.TG (c := [.func (.func 16) #[] #[]]) 5 Tryz.underlying133 Tryz.underlying132 rfl sz132.h rfl rfl rfl rfl) rfl rfl rfl ?_
 refine al fun b22 => ?_
 refine st 0 ?_
 refine kv Wv.ok ho fun t24 ho => ?_
 refine ci (hf := id) ho (fun ho => ?_) fun ho => ?_
 ·exact mo ho (fun _ z => ⟨5, t24, z⟩) (sO [])
 refine CP.skip ?_
 refine QE.blockN ?_
 refine QE.then ?_
 refine CP.region ?_
 refine cs (.int .i64 6) ?_
 refine QE.round ?_
 refine LP.step ?_
 refine CP.seq ?_
 refine CP.region ?_
 refine cs (.bool false) ?_
 refine CP.condF rfl rfl (gg ?_)
 exact mo ho (fun _ z => ⟨(-1), t24, z⟩) (sO [])
def Vq.f (m_0 : Z9) : Option Int :=
  (Xy.f m_0).bind fun t6 => some t6.2
theorem Vq.ok {m_0 Z4 Z6 Z0} (r) (ho : Vq.f m_0 = some r) : Ok Tryz.prog 19 [.agg #[Z4, Z6, Z0, .int .i64 m_0.Zd]] [slP Z5 Z4 m_0.Zj, slP Z5 Z6 m_0.Pool, slP Z8 Z0 m_0.Methods, arrP ZV 0 tab0] fun v => HO.pure (v = .int .i64 r) := by
 refine oq 11 Tryz.func19 fun w hV see pb => ?_
 refine bx fun b4 => ?_
 refine kv Xy.ok ho fun t6 ho => ?_
 exact Option.some.inj ho ▸ rt
def Vx.f (m_0 : Z9) : Option ((List Zq) × Int) :=
  (Vq.f m_0).bind fun t6 => if t6 ≠ 0 then (some ([], t6)) else ((Yi.f m_0).bind fun t8 => some (t8.1, t8.2))
theorem Vx.ok {m_0 Z4 Z6 Z0} (r) (ho : Vx.f m_0 = some r) : Ok Tryz.prog 17 [.agg #[Z4, Z6, Z0, .int .i64 m_0.Zd]] [slP Z5 Z4 m_0.Zj, slP Z5 Z6 m_0.Pool, slP Z8 Z0 m_0.Methods, arrP ZV 0 tab0] fun v => HO.ex fun u0 : Value => HO.pand (v = .tuple #[u0, .int .i64 r.2]) (HO.seps [slO Yh 45 u0 r.1]) := by
 refine oq 14 Tryz.func17 fun w hV see pb => ?_
 refine bx fun b4 => ?_
 refine kv Vq.ok ho fun t6 ho => ?_
 refine ci ho (fun ho => ?_) fun ho => ?_
 ·exact Option.some.inj ho ▸ rt (fun _ h => St.selO [0] rfl rfl (St.addO (slO.nil Yh 45) h))
 refine k1 Yi.ok ho fun t8 ho v9 => ?_
 exact Option.some.inj ho ▸ rt (sO [0])
inductive YX.S where
  | start
  | l1 (x12 : Int)
def YX.F (a_0 b_1 : List Zq) : YX.S → Option (YX.S ⊕ Bool)
  | .start => if (a_0.length : Int) ≠ (b_1.length : Int) then (some (.inr false)) else (some (.inl (.l1 0)))
  | .l1 x12 => if x12 < (a_0.length : Int) then ((elt a_0 x12).bind fun x16 => (elt b_1 x12).bind fun x20 => if (!(x16.Fuel == x20.Fuel && (x16.Stack == x20.Stack && (x16.Heap == x20.Heap)))) = true then (some (.inr false)) else (some (.inl (.l1 (IntKind.i64.wrap (x12 + 1)))))) else (some (.inr true))
def YX.f (a_0 b_1 : List Zq) : Option Bool := runF (YX.F a_0 b_1) .start
theorem YX.ok {a_0 b_1 UG UH} (r) (H : YX.f a_0 b_1 = some r) : Ok Tryz.prog 21 [UG, UH] [slP Yh UG a_0, slP Yh UH b_1] fun v => HO.pure (v = .bool r) := by
 refine oq 26 Tryz.func21 fun w hV see pb => ?_
 obtain ⟨m0, o, ho, hr⟩ := rn H
 refine ci ho (fun ho => ?_) fun ho => ?_
 ·exact fin ho hr ▸ rt
 refine lo ho hr (fun z => ∃ x12, z (.l1 x12) [(0, UG), (1, UH), (5, .int .i64 x12)] []) (fun _ z => ⟨0, z⟩) ?_
 rintro _ _ _ ⟨x12, m13, o, _, _, ho, hr, h⟩
 refine en h ?_
 refine ci ho (fun ho => ?_) fun ho => ?_
 ·refine dr ?_
  refine ge 0 ho fun x16 ho p14 KS => ?_
  refine gu 0 ?_
  refine ge 3 ho fun x20 ho p18 KT => ?_
  refine gu 0 ?_
  refine DA.ph 0 8 ?_
  refine DT.tk 0 ?_
  refine DT.tk 1 ?_
  refine DT.tv 2 rfl (Val.ie rfl rfl KS) ?_
  refine tk 3 ?_
  refine DT.tk 4 ?_
  refine DT.tk 5 ?_
  refine DT.tv 6 rfl (Val.ie rfl rfl KT) ?_
  refine tk 7 ?_
  refine dn ?_
  refine d1 8 ?_
  refine SP.val (Val.neqA (by kernel_rfl) (fun w2 => eqA45 9998 w2 x16.Fuel x20.Fuel x16.Stack x20.Stack x16.Heap x20.Heap) rfl rfl) rfl rfl rfl (gg ?_)
  refine dz ?_
  refine cb ho (fun ho => ?_) fun ho => ?_
  ·exact fin ho hr ▸ rt
  exact lw ho hr (fun _ z => ⟨(IntKind.i64.wrap (x12 + 1)), z⟩)
 exact fin ho hr ▸ rt
def VI.f (m_0 : Z9) : Option Int :=
  (Xy.f m_0).bind fun t6 => if t6.1 ≠ 2 then (some (-1)) else ((XH.f m_0).bind fun t7 => some t7.1)
theorem VI.ok {m_0 Z4 Z6 Z0} (r) (ho : VI.f m_0 = some r) : Ok Tryz.prog 18 [.agg #[Z4, Z6, Z0, .int .i64 m_0.Zd]] [slP Z5 Z4 m_0.Zj, slP Z5 Z6 m_0.Pool, slP Z8 Z0 m_0.Methods, arrP ZV 0 tab0] fun v => HO.pure (v = .int .i64 r) := by
 refine oq 20 Tryz.func18 fun w hV see pb => ?_
 refine bx fun b4 => ?_
 refine kv Xy.ok ho fun t6 ho => ?_
 refine ci ho (fun ho => ?_) fun ho => ?_
 ·exact Option.some.inj ho ▸ rt
 refine kv XH.ok ho fun t7 ho => ?_
 exact Option.some.inj ho ▸ rt
inductive Yu.S where
  | start
  | l1 (x27 : Int)
def Yu.F (m_0 : Z9) : Yu.S → Option (Yu.S ⊕ Int)
  | .start => (WV.f m_0).bind fun t6 => (if t6 ≠ 0 then (some true) else ((if m_0.Zd ≥ 0 then ((elt m_0.Methods m_0.Zd).bind fun x13 => (Yk.f x13).bind fun t20 => some (!t20)) else (some false)).bind fun t21 => some t21)).bind fun t22 => if t22 = true then (some (.inr (-1))) else (some (.inl (.l1 0)))
  | .l1 x27 => if x27 < (m_0.Methods.length : Int) then ((Zo.f m_0 x27).bind fun t29 => if t29.2 ≠ 0 then (some (.inr x27)) else (some (.inl (.l1 (IntKind.i64.wrap (x27 + 1)))))) else (some (.inr (-1)))
def Yu.f (m_0 : Z9) : Option Int := runF (Yu.F m_0) .start
theorem Yu.ok {m_0 Z4 Z6 Z0} (r) (H : Yu.f m_0 = some r) : Ok Tryz.prog 25 [.agg #[Z4, Z6, Z0, .int .i64 m_0.Zd]] [slP Z5 Z4 m_0.Zj, slP Z5 Z6 m_0.Pool, slP Z8 Z0 m_0.Methods] fun v => HO.pure (v = .int .i64 r) := by
 refine oq 40 Tryz.func25 fun w hV see pb => ?_
 obtain ⟨m0, o, ho, hr⟩ := rn H
 refine bx fun b4 => ?_
 refine kv WV.ok ho fun t6 ho => ?_
 obtain ⟨t22, Z5Y, ho⟩ := bind_some ho
 refine SP.jn 14 [1] 23 (.bool t22) ?_ ?_
 ·clear Z5Y
  refine gg ?_
  refine cb ho (fun ho => ?_) fun ho => ?_
  ·exact fin ho hr ▸ rt
  refine lo ho hr (fun z => ∃ x27, z (.l1 x27) [(1, .pointer (some ⟨b4, 0, none⟩)), (3, .int .i64 x27)] [boxO b4 [Z4, Z6, Z0, .int .i64 m_0.Zd] 25]) (fun _ z => ⟨0, z⟩) ?_
  rintro _ _ _ ⟨x27, m28, o, _, _, ho, hr, h⟩
  refine en h ?_
  refine ci ho (fun ho => ?_) fun ho => ?_
  ·refine k1 Zo.ok ho fun t29 ho v30 => ?_
   refine ci ho (fun ho => ?_) fun ho => ?_
   ·exact fin ho hr ▸ rt
   exact lw ho hr (fun _ z => ⟨(IntKind.i64.wrap (x27 + 1)), z⟩) (sO [1])
  exact fin ho hr ▸ rt
 refine bi 9 Z5Y (fun hq8 ho => ?_) fun hq8 ho => ?_
 ·obtain rfl := Option.some.inj ho
  exact jn
 obtain ⟨t21, Z5Z, ho⟩ := bind_some ho
 refine SP.jn 9 [1, 9] 22 (.bool t21) ?_ ?_
 ·clear Z5Z
  refine gg ?_
  obtain rfl := Option.some.inj ho
  exact jn
 refine bi 13 Z5Z (fun hq10 ho => ?_) fun hq10 ho => ?_
 ·refine ip 2 ho fun x13 ho p11 => ?_
  refine Z8.load see 0 rfl Tryz.underlying34 rfl sz34.h rfl rfl rfl (fun v14 v16 v18 => ?_)
  refine kv Yk.ok ho fun t20 ho => ?_
  obtain rfl := Option.some.inj ho
  exact QE.jn fun w2 hw => (St.selP [4, 5, 6] rfl hw)
 obtain rfl := Option.some.inj ho
 exact jn
inductive YZ.S where
  | start
  | l1 (x12 : Int)
def YZ.F (a_0 b_1 : List Zn) : YZ.S → Option (YZ.S ⊕ Bool)
  | .start => if (a_0.length : Int) ≠ (b_1.length : Int) then (some (.inr false)) else (some (.inl (.l1 0)))
  | .l1 x12 => if x12 < (a_0.length : Int) then ((elt a_0 x12).bind fun x16 => (elt b_1 x12).bind fun x20 => if (!(x16.Kind == x20.Kind && (x16.A == x20.A && (x16.B == x20.B)))) = true then (some (.inr false)) else (some (.inl (.l1 (IntKind.i64.wrap (x12 + 1)))))) else (some (.inr true))
def YZ.f (a_0 b_1 : List Zn) : Option Bool := runF (YZ.F a_0 b_1) .start
theorem YZ.ok {a_0 b_1 UG UH} (r) (H : YZ.f a_0 b_1 = some r) : Ok Tryz.prog 56 [UG, UH] [slP Z5 UG a_0, slP Z5 UH b_1] fun v => HO.pure (v = .bool r) := by
 refine oq 26 Tryz.func56 fun w hV see pb => ?_
 obtain ⟨m0, o, ho, hr⟩ := rn H
 refine ci ho (fun ho => ?_) fun ho => ?_
 ·exact fin ho hr ▸ rt
 refine lo ho hr (fun z => ∃ x12, z (.l1 x12) [(0, UG), (1, UH), (5, .int .i64 x12)] []) (fun _ z => ⟨0, z⟩) ?_
 rintro _ _ _ ⟨x12, m13, o, _, _, ho, hr, h⟩
 refine en h ?_
 refine ci ho (fun ho => ?_) fun ho => ?_
 ·refine dr ?_
  refine ge 0 ho fun x16 ho p14 KS => ?_
  refine gu 0 ?_
  refine ge 3 ho fun x20 ho p18 KT => ?_
  refine gu 0 ?_
  refine DA.ph 0 8 ?_
  refine DT.tk 0 ?_
  refine DT.tk 1 ?_
  refine DT.tv 2 rfl (Val.ie rfl rfl KS) ?_
  refine tk 3 ?_
  refine DT.tk 4 ?_
  refine DT.tk 5 ?_
  refine DT.tv 6 rfl (Val.ie rfl rfl KT) ?_
  refine tk 7 ?_
  refine dn ?_
  refine d1 8 ?_
  refine SP.val (Val.neqA (by kernel_rfl) (fun w2 => eqA100 9998 w2 x16.Kind x20.Kind x16.A x20.A x16.B x20.B) rfl rfl) rfl rfl rfl (gg ?_)
  refine dz ?_
  refine cb ho (fun ho => ?_) fun ho => ?_
  ·exact fin ho hr ▸ rt
  exact lw ho hr (fun _ z => ⟨(IntKind.i64.wrap (x12 + 1)), z⟩)
 exact fin ho hr ▸ rt
def VQ.f (a_0 b_1 : Zb) : Option Bool :=
  (ZB.f a_0.Args b_1.Args).bind fun t11 => (if t11 = true then ((ZB.f a_0.Locals b_1.Locals).bind fun t14 => some t14) else (some false)).bind fun t15 => some (((((t15 && (decide (a_0.Result = b_1.Result))) && (a_0.Reads == b_1.Reads)) && (decide (a_0.Fuel = b_1.Fuel))) && (decide (a_0.Stack = b_1.Stack))) && (decide (a_0.Heap = b_1.Heap)))
theorem VQ.ok {a_0 b_1 Z1N Z0n Z1O Z1P Z0o Z1Q} (r) (ho : VQ.f a_0 b_1 = some r) : Ok Tryz.prog 57 [.agg #[Z1N, Z0n, .int .u8 a_0.Result, .bool a_0.Reads, .int .i64 a_0.Fuel, .int .i64 a_0.Stack, .int .i64 a_0.Heap, Z1O], .agg #[Z1P, Z0o, .int .u8 b_1.Result, .bool b_1.Reads, .int .i64 b_1.Fuel, .int .i64 b_1.Stack, .int .i64 b_1.Heap, Z1Q]] [slP (kInt .u8) Z1N a_0.Args, slP (kInt .u8) Z0n a_0.Locals, slP Za Z1O a_0.Code, slP (kInt .u8) Z1P b_1.Args, slP (kInt .u8) Z0o b_1.Locals, slP Za Z1Q b_1.Code] fun v => HO.pure (v = .bool r) := by
 refine oq 52 Tryz.func57 fun w hV see pb => ?_
 refine bx fun b7 => ?_
 refine bx fun b9 => ?_
 refine kv ZB.ok ho fun t11 ho => ?_
 obtain ⟨t15, KL, ho⟩ := bind_some ho
 refine SP.jn 6 [2, 3] 16 (.bool t15) ?_ ?_
 ·clear KL
  refine gg ?_
  refine SP.jn 6 [2, 3] 23 (.bool (t15 && (decide (a_0.Result = b_1.Result)))) ?_ ?_
  ·refine gg ?_
   refine SP.jn 6 [2, 3] 30 (.bool ((t15 && (decide (a_0.Result = b_1.Result))) && (a_0.Reads == b_1.Reads))) ?_ ?_
   ·refine gg ?_
    refine SP.jn 6 [2, 3] 37 (.bool (((t15 && (decide (a_0.Result = b_1.Result))) && (a_0.Reads == b_1.Reads)) && (decide (a_0.Fuel = b_1.Fuel)))) ?_ ?_
    ·refine gg ?_
     refine SP.jn 6 [2, 3] 44 (.bool ((((t15 && (decide (a_0.Result = b_1.Result))) && (a_0.Reads == b_1.Reads)) && (decide (a_0.Fuel = b_1.Fuel))) && (decide (a_0.Stack = b_1.Stack)))) ?_ ?_
     ·refine gg ?_
      refine SP.jn 6 [] 51 (.bool (((((t15 && (decide (a_0.Result = b_1.Result))) && (a_0.Reads == b_1.Reads)) && (decide (a_0.Fuel = b_1.Fuel))) && (decide (a_0.Stack = b_1.Stack))) && (decide (a_0.Heap = b_1.Heap)))) ?_ ?_
      ·refine gg ?_
       exact Option.some.inj ho ▸ rt
      refine bb 45 (fun hq25 => ?_) fun hq25 => ?_
      ·exact jb (XT hq25 rfl)
      exact jb (XU hq25)
     refine bb 38 (fun hq23 => ?_) fun hq23 => ?_
     ·exact jb (XT hq23 rfl)
     exact jb (XU hq23)
    refine bb 31 (fun hq21 => ?_) fun hq21 => ?_
    ·exact jb (XT hq21 rfl)
    exact jb (XU hq21)
   refine bb 24 (fun hq19 => ?_) fun hq19 => ?_
   ·refine SP.val (Val.eqlB Tryz.underlying4 rfl rfl) rfl rfl rfl (gg ?_)
    exact jb (XT hq19 rfl)
   exact jb (XU hq19)
  refine bb 17 (fun hq17 => ?_) fun hq17 => ?_
  ·exact jb (XT hq17 rfl)
  exact jb (XU hq17)
 refine bc 10 KL (fun hq13 ho => ?_) fun hq13 ho => ?_
 ·refine kv ZB.ok ho fun t14 ho => ?_
  obtain rfl := Option.some.inj ho
  exact jn
 obtain rfl := Option.some.inj ho
 exact jn
inductive Xk.S where
  | start
  | l1 (x12 : Int)
def Xk.F (a_0 b_1 : List Z7) : Xk.S → Option (Xk.S ⊕ Bool)
  | .start => if (a_0.length : Int) ≠ (b_1.length : Int) then (some (.inr false)) else (some (.inl (.l1 0)))
  | .l1 x12 => if x12 < (a_0.length : Int) then ((elt a_0 x12).bind fun x16 => (elt b_1 x12).bind fun x20 => if (!(x16.Op == x20.Op && (x16.A == x20.A && (x16.B == x20.B)))) = true then (some (.inr false)) else (some (.inl (.l1 (IntKind.i64.wrap (x12 + 1)))))) else (some (.inr true))
def Xk.f (a_0 b_1 : List Z7) : Option Bool := runF (Xk.F a_0 b_1) .start
theorem Xk.ok {a_0 b_1 UG UH} (r) (H : Xk.f a_0 b_1 = some r) : Ok Tryz.prog 58 [UG, UH] [slP Za UG a_0, slP Za UH b_1] fun v => HO.pure (v = .bool r) := by
 refine oq 26 Tryz.func58 fun w hV see pb => ?_
 obtain ⟨m0, o, ho, hr⟩ := rn H
 refine ci ho (fun ho => ?_) fun ho => ?_
 ·exact fin ho hr ▸ rt
 refine lo ho hr (fun z => ∃ x12, z (.l1 x12) [(0, UG), (1, UH), (5, .int .i64 x12)] []) (fun _ z => ⟨0, z⟩) ?_
 rintro _ _ _ ⟨x12, m13, o, _, _, ho, hr, h⟩
 refine en h ?_
 refine ci ho (fun ho => ?_) fun ho => ?_
 ·refine dr ?_
  refine ge 0 ho fun x16 ho p14 KS => ?_
  refine gu 0 ?_
  refine ge 3 ho fun x20 ho p18 KT => ?_
  refine gu 0 ?_
  refine DA.ph 0 8 ?_
  refine DT.tk 0 ?_
  refine DT.tk 1 ?_
  refine DT.tv 2 rfl (Val.ie rfl rfl KS) ?_
  refine tk 3 ?_
  refine DT.tk 4 ?_
  refine DT.tk 5 ?_
  refine DT.tv 6 rfl (Val.ie rfl rfl KT) ?_
  refine tk 7 ?_
  refine dn ?_
  refine d1 8 ?_
  refine SP.val (Val.neqA (by kernel_rfl) (fun w2 => eqA43 9998 w2 x16.Op x20.Op x16.A x20.A x16.B x20.B) rfl rfl) rfl rfl rfl (gg ?_)
  refine dz ?_
  refine cb ho (fun ho => ?_) fun ho => ?_
  ·exact fin ho hr ▸ rt
  exact lw ho hr (fun _ z => ⟨(IntKind.i64.wrap (x12 + 1)), z⟩)
 exact fin ho hr ▸ rt
inductive Yj.S where
  | start
  | l1 (x64 : Int)
def Yj.j1 (a_0 b_1 : Z9) (x64 : Int) (b106 : Bool) : Option (Yj.S ⊕ Bool) :=
  if b106 = true then (some (.inr false)) else (some (.inl (.l1 (IntKind.i64.wrap (x64 + 1)))))
def Yj.F (a_0 b_1 : Z9) : Yj.S → Option (Yj.S ⊕ Bool)
  | .start => (if a_0.Zd ≠ b_1.Zd then (some true) else ((YZ.f a_0.Zj b_1.Zj).bind fun t13 => some (!t13))).bind fun t14 => (if t14 = true then (some true) else ((YZ.f a_0.Pool b_1.Pool).bind fun t17 => some (!t17))).bind fun t18 => if (t18 || (decide ((a_0.Methods.length : Int) ≠ (b_1.Methods.length : Int)))) = true then (some (.inr false)) else (some (.inl (.l1 0)))
  | .l1 x64 => if x64 < (a_0.Methods.length : Int) then ((elt a_0.Methods x64).bind fun x68 => (elt b_1.Methods x64).bind fun x78 => (VQ.f x68 x78).bind fun t86 => if (!t86) = true then (Yj.j1 a_0 b_1 x64 true) else ((elt a_0.Methods x64).bind fun x91 => (elt b_1.Methods x64).bind fun x99 => (Xk.f x91.Code x99.Code).bind fun t105 => Yj.j1 a_0 b_1 x64 (!t105))) else (some (.inr true))
def Yj.f (a_0 b_1 : Z9) : Option Bool := runF (Yj.F a_0 b_1) .start
theorem Yj.ok {a_0 b_1 TT KV TU TV KW TW} (r) (H : Yj.f a_0 b_1 = some r) : Ok Tryz.prog 26 [.agg #[TT, KV, TU, .int .i64 a_0.Zd], .agg #[TV, KW, TW, .int .i64 b_1.Zd]] [slP Z5 TT a_0.Zj, slP Z5 KV a_0.Pool, slP Z8 TU a_0.Methods, slP Z5 TV b_1.Zj, slP Z5 KW b_1.Pool, slP Z8 TW b_1.Methods] fun v => HO.pure (v = .bool r) := by
 refine oq 71 Tryz.func26 fun w hV see pb => ?_
 obtain ⟨m0, o, ho, hr⟩ := rn H
 refine bx fun b7 => ?_
 refine bx fun b9 => ?_
 obtain ⟨t14, Z60, ho⟩ := bind_some ho
 refine SP.jn 7 [2, 3] 18 (.bool t14) ?_ ?_
 ·clear Z60
  refine gg ?_
  obtain ⟨t18, Z0f, ho⟩ := bind_some ho
  refine SP.jn 7 [2, 3] 26 (.bool t18) ?_ ?_
  ·clear Z0f
   refine gg ?_
   refine SP.jn 8 [2, 3] 35 (.bool (t18 || (decide ((a_0.Methods.length : Int) ≠ (b_1.Methods.length : Int))))) ?_ ?_
   ·refine gg ?_
    refine cb ho (fun ho => ?_) fun ho => ?_
    ·exact fin ho hr ▸ rt
    refine lo ho hr (fun z => ∃ x64, z (.l1 x64) [(2, .pointer (some ⟨b7, 0, none⟩)), (3, .pointer (some ⟨b9, 0, none⟩)), (5, .int .i64 x64)] [boxO b9 [TV, KW, TW, .int .i64 b_1.Zd] 25, boxO b7 [TT, KV, TU, .int .i64 a_0.Zd] 25]) (fun _ z => ⟨0, z⟩) ?_
    rintro _ _ _ ⟨x64, m65, o, _, _, ho, hr, h⟩
    refine en h ?_
    refine ci (ht := id) ho (fun ho => ?_) fun ho => ?_
    ·refine go ?_
     refine CP.seq ?_
     refine go ?_
     refine ji hr (fun z => ∃ b106, z (Yj.j1 a_0 b_1 x64 b106) [(2, .pointer (some ⟨b7, 0, none⟩)), (3, .pointer (some ⟨b9, 0, none⟩)), (5, .int .i64 x64), (70, .bool b106)] [boxO b9 [TV, KW, TW, .int .i64 b_1.Zd] 25, boxO b7 [TT, KV, TU, .int .i64 a_0.Zd] 25]) ?_ ?_
     ·rintro _ _ ⟨b106, m107, o, _, ho, hr, h⟩
      refine en h ?_
      refine cb ho (fun ho => ?_) fun ho => ?_
      ·exact fin ho hr ▸ rt
      exact lw ho hr (fun _ z => ⟨(IntKind.i64.wrap (x64 + 1)), z⟩)
     refine dr ?_
     refine ge 2 ho fun x68 ho p66 Z1B => ?_
     refine DA.ghost (fun w2 h => h.openE see 0 rfl (fun ((v69, v71, v73) : Value × Value × Value) => [v69, v71, .int .u8 x68.Result, .bool x68.Reads, .int .i64 x68.Fuel, .int .i64 x68.Stack, .int .i64 x68.Heap, v73]) (fun ((v69, v71, v73) : Value × Value × Value) => [slP (kInt .u8) v69 x68.Args, slP (kInt .u8) v71 x68.Locals, slP Za v73 x68.Code]) (fun h cs ⟨v69, v71, v73, e, p0, p1, p2⟩ => ⟨(v69, v71, v73), e, All.cons p0 (All.cons p1 (All.cons p2 (All.nil _)))⟩)) (fun z_ _ => ?_)
     obtain ⟨v69, v71, v73⟩ := z_
     refine ge 10 ho fun x78 ho p76 Z9Z => ?_
     refine DA.ghost (fun w2 h => h.openE see 0 rfl (fun ((v79, v81, v83) : Value × Value × Value) => [v79, v81, .int .u8 x78.Result, .bool x78.Reads, .int .i64 x78.Fuel, .int .i64 x78.Stack, .int .i64 x78.Heap, v83]) (fun ((v79, v81, v83) : Value × Value × Value) => [slP (kInt .u8) v79 x78.Args, slP (kInt .u8) v81 x78.Locals, slP Za v83 x78.Code]) (fun h cs ⟨v79, v81, v83, e, p0, p1, p2⟩ => ⟨(v79, v81, v83), e, All.cons p0 (All.cons p1 (All.cons p2 (All.nil _)))⟩)) (fun z_ _ => ?_)
     obtain ⟨v79, v81, v83⟩ := z_
     refine DA.ph 0 10 ?_
     refine DT.tk 0 ?_
     refine DT.tk 1 ?_
     refine DT.tk 2 ?_
     refine DT.tv 3 rfl (Val.ie rfl rfl Z1B) ?_
     refine tk 4 ?_
     refine DT.tk 5 ?_
     refine DT.tk 6 ?_
     refine DT.tk 7 ?_
     refine DT.tv 8 rfl (Val.ie rfl rfl Z9Z) ?_
     refine tk 9 ?_
     refine dn ?_
     refine d1 10 ?_
     refine kv VQ.ok ho fun t86 ho => ?_
     refine d1 11 ?_
     refine d1 12 ?_
     rcases Ws ho with ⟨hc, ho⟩ | ⟨hc, ho⟩
     ·have hg87 := hc
      clear hc
      refine DA.ph 13 25 ?_
      refine DT.is (d := 55) (b := true) rfl hg87 ?_
      refine DT.tn 13 ?_
      refine DT.tn 14 ?_
      refine DT.tn 15 ?_
      refine DT.tn 16 ?_
      refine DT.tn 17 ?_
      refine DT.tn 18 ?_
      refine DT.tn 19 ?_
      refine DT.tn 20 ?_
      refine DT.tn 21 ?_
      refine DT.tn 22 ?_
      refine DT.tn 23 ?_
      refine DT.tn 24 ?_
      refine dn ?_
      refine DA.ph 25 26 ?_
      refine DT.tn 25 ?_
      refine dn ?_
      refine DA.ph 26 27 ?_
      refine DT.tn 26 ?_
      refine dn ?_
      refine d1 27 ?_
      refine dz ?_
      exact mi ho hr (fun _ z => ⟨true, z⟩)
     have hg88 := (bf hc)
     clear hc
     refine ge 12 ho fun x91 ho p89 Za0 => ?_
     refine DA.ghost (fun w2 h => h.fieldE see 0 rfl Z8.Td) (fun p92 Za1 => ?_)
     refine DA.ghost (fun w2 h => h.openE see 0 rfl (fun (v94 : Value) => [v94]) (fun (v94 : Value) => [slP Za v94 x91.Code]) (fun h cs ⟨v94, e, p0⟩ => ⟨v94, e, All.cons p0 (All.nil _)⟩)) (fun z_ _ => ?_)
     rename Value => v94
     refine ge 19 ho fun x99 ho p97 Z5m => ?_
     refine DA.ghost (fun w2 h => h.fieldE see 0 rfl Z8.Td) (fun p100 Z3z => ?_)
     refine DA.ghost (fun w2 h => h.openE see 0 rfl (fun (v102 : Value) => [v102]) (fun (v102 : Value) => [slP Za v102 x99.Code]) (fun h cs ⟨v102, e, p0⟩ => ⟨v102, e, All.cons p0 (All.nil _)⟩)) (fun z_ _ => ?_)
     rename Value => v102
     refine DA.ph 13 25 ?_
     refine DT.is (d := 55) (b := false) rfl hg88 ?_
     refine DT.tk 13 ?_
     refine DT.tk 14 ?_
     refine DT.tk 15 ?_
     refine DT.tv 16 rfl (Val.ie rfl rfl Za0) ?_
     refine DT.tv 17 rfl (Val.fe rfl Za1) ?_
     refine tk 18 ?_
     refine DT.tk 19 ?_
     refine DT.tk 20 ?_
     refine DT.tk 21 ?_
     refine DT.tv 22 rfl (Val.ie rfl rfl Z5m) ?_
     refine DT.tv 23 rfl (Val.fe rfl Z3z) ?_
     refine tk 24 ?_
     refine dn ?_
     refine d1 25 ?_
     refine kv Xk.ok ho fun t105 ho => ?_
     refine d1 26 ?_
     refine d1 27 ?_
     refine dz ?_
     exact mi ho hr (fun _ z => ⟨(!t105), z⟩)
    exact fin ho hr ▸ rt
   refine bb 27 (fun hq20 => ?_) fun hq20 => ?_
   ·exact jb (WL hq20)
   exact jb (WM hq20 rfl)
  refine bc 19 Z0f (fun hq16 ho => ?_) fun hq16 ho => ?_
  ·obtain rfl := Option.some.inj ho
   exact jn
  refine kv YZ.ok ho fun t17 ho => ?_
  obtain rfl := Option.some.inj ho
  exact jn
 refine bi 11 Z60 (fun hq12 ho => ?_) fun hq12 ho => ?_
 ·obtain rfl := Option.some.inj ho
  exact jn
 refine kv YZ.ok ho fun t13 ho => ?_
 obtain rfl := Option.some.inj ho
 exact jn
inductive Zm.S where
  | start
  | l1 (t7 : Z9) (t16 : (List Zq) × Int) (l77 : List Zq) (x79 : Int)
  | l2 (t7 : Z9) (t16 : (List Zq) × Int) (l108 : List Zq) (x110 : Int)
def Zm.j2 (m_0 t7 : Z9) (t16 t84 : (List Zq) × Int) (b102 : Bool) : Option (Zm.S ⊕ Bool) :=
  if b102 = true then (some (.inr false)) else (some (.inl (.l2 t7 t16 t84.1 0)))
def Zm.j1 (m_0 t7 : Z9) (t16 t19 : (List Zq) × Int) (b37 : Bool) : Option (Zm.S ⊕ Bool) :=
  if b37 = true then (some (.inr false)) else (some (.inl (.l1 t7 t16 t19.1 0)))
def Zm.F (m_0 : Z9) : Zm.S → Option (Zm.S ⊕ Bool)
  | .start => (YU.f m_0).bind fun t6 => if t6 = true then (some (.inr true)) else ((Xg.f m_0).bind fun t7 => (YA.f m_0).bind fun t16 => (Vx.f t7).bind fun t19 => if t19.2 ≠ t16.2 then (Zm.j1 m_0 t7 t16 t19 true) else ((Vq.f t7).bind fun t24 => if t24 ≠ t16.2 then (Zm.j1 m_0 t7 t16 t19 true) else ((YX.f t19.1 t16.1).bind fun t28 => if (!t28) = true then (Zm.j1 m_0 t7 t16 t19 true) else ((VI.f t7).bind fun t31 => (Yu.f m_0).bind fun t33 => if t31 ≠ t33 then (Zm.j1 m_0 t7 t16 t19 true) else ((Yj.f t7 m_0).bind fun t36 => Zm.j1 m_0 t7 t16 t19 (!t36))))))
  | .l1 t7 t16 l77 x79 => if x79 < (l77.length : Int) then ((elt l77 x79).bind fun x82 => some (.inl (.l1 t7 t16 (l77.set x79.toNat (⟨(-5), x82.Stack, x82.Heap⟩ : Zq)) (IntKind.i64.wrap (x79 + 1))))) else ((Vx.f t7).bind fun t84 => if t84.2 ≠ t16.2 then (Zm.j2 m_0 t7 t16 t84 true) else ((Vq.f t7).bind fun t89 => if t89 ≠ t16.2 then (Zm.j2 m_0 t7 t16 t84 true) else ((YX.f t84.1 t16.1).bind fun t93 => if (!t93) = true then (Zm.j2 m_0 t7 t16 t84 true) else ((VI.f t7).bind fun t96 => (Yu.f m_0).bind fun t98 => if t96 ≠ t98 then (Zm.j2 m_0 t7 t16 t84 true) else ((Yj.f t7 m_0).bind fun t101 => Zm.j2 m_0 t7 t16 t84 (!t101))))))
  | .l2 t7 t16 l108 x110 => if x110 < (l108.length : Int) then ((elt l108 x110).bind fun x113 => some (.inl (.l2 t7 t16 (l108.set x110.toNat (⟨(-5), x113.Stack, x113.Heap⟩ : Zq)) (IntKind.i64.wrap (x110 + 1))))) else (some (.inr true))
def Zm.f (m_0 : Z9) : Option Bool := runF (Zm.F m_0) .start
theorem Zm.ok (m_0 : Z9) (Z4 Z6 Z0 : Value)  (r : Bool) (H : Zm.f m_0 = some r) (w : World) (hV : Hp) (sV : Sub hV (hp w)) (h0 : slR Z5 hV Z4 m_0.Zj) (h1 : slR Z5 hV Z6 m_0.Pool) (h2 : slR Z8 hV Z0 m_0.Methods) (h3 : (arrP ZV 0 tab0).p hV) :
    Trip Tryz.prog 6 [.agg #[Z4, Z6, Z0, .int .i64 m_0.Zd]].toArray em hV w (fun v => HO.pure (v = .bool r)) := by
 refine Trip.go 66 Tryz.func6 sV (aS h0 (aS h1 (aS h2 (All.cons (x := arrP ZV 0 tab0) h3 (All.nil _))))) fun see => ?_
 obtain ⟨m0, o, ho, hr⟩ := rn H
 refine gg ?_
 refine bx fun b4 => ?_
 refine kv YU.ok ho fun t6 ho => ?_
 refine cb ho (fun ho => ?_) fun ho => ?_
 ·exact fin ho hr ▸ rt
 refine k3 Xg.ok ho fun t7 ho v8 v9 v10 => ?_
 refine al (h := fun _ => id) fun b14 => ?_
 refine sh (h := id) 1 fun ZaU => ?_
 refine sh (h := id) 2 fun ZaV => ?_
 refine SP.have (fun w2 hw => slD.shape (St.own 3 rfl see.sub see.dj hw)) (fun Z5R => ?_)
 refine st 0 ?_
 refine k1 YA.ok ho fun t16 ho v17 => ?_
 refine CP.rounds 8 ?_
 refine LP.step ?_
 refine (CP.seq ?_)
 refine CP.seq ?_
 refine CP.region ?_
 refine SP.val (Val.move rfl) rfl rfl rfl ?_
 refine cs (.bool true) ?_
 refine CP.condT rfl rfl (gg ?_)
 obtain ⟨t19, hc, ho⟩ := bind_some ho
 refine SP.callKO see (caps := []) _ fn17.h rfl rfl rfl rfl (fun w2 hs => Vx.ok _ hc w2 (hp w2) (Sub.refl _) (aS (slO.read (St.own 2 rfl see.sub see.dj hs) (Sub.refl _) (Sub.refl _)) (aS (slO.read (St.own 3 rfl see.sub see.dj hs) (Sub.refl _) (Sub.refl _)) (aS (slD.read (St.own 4 rfl see.sub see.dj hs) (Sub.refl _) (Sub.refl _)) (All.cons ((St.pers 3 rfl see.sub see.dj hs)) (All.nil _)))))) (fun v a a2 b ⟨v20, e, h⟩ => ⟨v20, e, (Sep.fcons (fun _ => slO.flip (fun _ _ _ _ h => h)) (fun _ => Sep.fnil)) h⟩) (SP.k1 fun v20 => ?_)
 clear hc
 refine go ?_
 refine CP.seq ?_
 refine ji hr (fun z => ∃ b37, z (Zm.j1 m_0 t7 t16 t19 b37) [(1, .pointer (some ⟨b4, 0, none⟩)), (3, .pointer (some ⟨b14, 0, none⟩)), (4, v17), (5, .int .i64 t16.2), (6, .int .i64 0), (7, v20), (55, .bool b37)] [slO Yh 45 v20 t19.1, slO Yh 45 v17 t16.1, boxO b14 [v8, v9, v10, .int .i64 t7.Zd] 25, slO Z5 100 v8 t7.Zj, slO Z5 100 v9 t7.Pool, slD VE 34 v10 t7.Methods, boxO b4 [Z4, Z6, Z0, .int .i64 m_0.Zd] 25]) ?_ ?_ (hb := pe [slP Z5 Z4 m_0.Zj, slP Z5 Z6 m_0.Pool, slP Z8 Z0 m_0.Methods, arrP ZV 0 tab0])
 ·rintro _ _ ⟨b37, m38, o, _, ho, hr, h⟩
  refine en h ?_
  refine cb ho (fun ho => ?_) fun ho => ?_
  ·exact fin ho hr ▸ rt
  refine lo ho hr (fun z => ∃ l77 x79 v78, z (.l1 t7 t16 l77 x79) [(1, .pointer (some ⟨b4, 0, none⟩)), (3, .pointer (some ⟨b14, 0, none⟩)), (4, v17), (5, .int .i64 t16.2), (6, .int .i64 0), (7, v78), (9, .int .i64 x79)] [slO Yh 45 v78 l77, slO Yh 45 v17 t16.1, boxO b14 [v8, v9, v10, .int .i64 t7.Zd] 25, slO Z5 100 v8 t7.Zj, slO Z5 100 v9 t7.Pool, slD VE 34 v10 t7.Methods, boxO b4 [Z4, Z6, Z0, .int .i64 m_0.Zd] 25]) (fun _ z => ⟨t19.1, 0, v20, z⟩) ?_ (hb := pe [slP Z5 Z4 m_0.Zj, slP Z5 Z6 m_0.Pool, slP Z8 Z0 m_0.Methods, arrP ZV 0 tab0])
  rintro _ _ _ ⟨l77, x79, v78, m80, o, _, _, ho, hr, h⟩
  refine en h ?_
  refine ci (hf := id) ho (fun ho => ?_) fun ho => ?_
  ·obtain ⟨x82, Z3S, ho⟩ := YG ho
   refine SP.indexW (fun w2 hw => slO.whole (St.own 0 rfl see.sub see.dj hw)) Tryz.underlying37 sz45.h Z3S.1 Z3S.2 rfl rfl rfl rfl (fun p81 Z59 => ?_)
   refine SP.fieldO Z59 Tryz.underlying45 rfl sz3.h rfl rfl rfl (fun p83 Za2 => ?_)
   refine SP.storeO (z0 := (⟨(-5), x82.Stack, x82.Heap⟩ : Zq)) (off := 0) (vs := [.int .i64 (-5)]) see 0 rfl Z3S.2 Za2 rfl rfl sz3.h rfl (fun a cs _ e => by subst e; rfl) rfl rfl rfl (gg ?_)
   exact lw ho hr (fun _ z => ⟨(l77.set x79.toNat (⟨(-5), x82.Stack, x82.Heap⟩ : Zq)), (IntKind.i64.wrap (x79 + 1)), v78, z⟩)
  refine CP.exit ?_
  refine QE.thru (by intro e; cases e) ?_
  refine QE.thru (by intro e; cases e) ?_
  refine QE.blockE ?_
  refine QE.blockN ?_
  refine QE.then ?_
  refine CP.region ?_
  refine SP.val (Val.move rfl) rfl rfl rfl ?_
  refine cs (.int .i64 1) ?_
  refine QE.round ?_
  refine LP.step ?_
  refine (CP.seq ?_)
  refine CP.seq ?_
  refine CP.region ?_
  refine SP.val (Val.move rfl) rfl rfl rfl ?_
  refine cs (.bool true) ?_
  refine CP.condT rfl rfl (gg ?_)
  obtain ⟨t84, hc, ho⟩ := bind_some ho
  refine SP.callKO see (caps := []) _ fn17.h rfl rfl rfl rfl (fun w2 hs => Vx.ok _ hc w2 (hp w2) (Sub.refl _) (aS (slO.read (St.own 3 rfl see.sub see.dj hs) (Sub.refl _) (Sub.refl _)) (aS (slO.read (St.own 4 rfl see.sub see.dj hs) (Sub.refl _) (Sub.refl _)) (aS (slD.read (St.own 5 rfl see.sub see.dj hs) (Sub.refl _) (Sub.refl _)) (All.cons ((St.pers 3 rfl see.sub see.dj hs)) (All.nil _)))))) (fun v a a2 b ⟨v85, e, h⟩ => ⟨v85, e, (Sep.fcons (fun _ => slO.flip (fun _ _ _ _ h => h)) (fun _ => Sep.fnil)) h⟩) (SP.k1 fun v85 => ?_)
  clear hc
  refine go ?_
  refine CP.seq ?_
  refine ji hr (fun z => ∃ b102, z (Zm.j2 m_0 t7 t16 t84 b102) [(1, .pointer (some ⟨b4, 0, none⟩)), (3, .pointer (some ⟨b14, 0, none⟩)), (4, v17), (5, .int .i64 t16.2), (6, .int .i64 1), (7, v85), (55, .bool b102)] [slO Yh 45 v85 t84.1, slO Yh 45 v17 t16.1, boxO b14 [v8, v9, v10, .int .i64 t7.Zd] 25, slO Z5 100 v8 t7.Zj, slO Z5 100 v9 t7.Pool, slD VE 34 v10 t7.Methods, boxO b4 [Z4, Z6, Z0, .int .i64 m_0.Zd] 25]) ?_ ?_ (hb := pe [slP Z5 Z4 m_0.Zj, slP Z5 Z6 m_0.Pool, slP Z8 Z0 m_0.Methods, arrP ZV 0 tab0])
  ·rintro _ _ ⟨b102, m103, o, _, ho, hr, h⟩
   refine en h ?_
   refine cb ho (fun ho => ?_) fun ho => ?_
   ·exact fin ho hr ▸ rt
   refine lo ho hr (fun z => ∃ l108 x110 v109, z (.l2 t7 t16 l108 x110) [(1, .pointer (some ⟨b4, 0, none⟩)), (3, .pointer (some ⟨b14, 0, none⟩)), (4, v17), (5, .int .i64 t16.2), (6, .int .i64 1), (7, v109), (9, .int .i64 x110)] [slO Yh 45 v109 l108, slO Yh 45 v17 t16.1, boxO b14 [v8, v9, v10, .int .i64 t7.Zd] 25, slO Z5 100 v8 t7.Zj, slO Z5 100 v9 t7.Pool, slD VE 34 v10 t7.Methods, boxO b4 [Z4, Z6, Z0, .int .i64 m_0.Zd] 25]) (fun _ z => ⟨t84.1, 0, v85, z⟩) ?_ (hb := pe [slP Z5 Z4 m_0.Zj, slP Z5 Z6 m_0.Pool, slP Z8 Z0 m_0.Methods, arrP ZV 0 tab0])
   rintro _ _ _ ⟨l108, x110, v109, m111, o, _, _, ho, hr, h⟩
   refine en h ?_
   refine ci (hf := id) ho (fun ho => ?_) fun ho => ?_
   ·obtain ⟨x113, Z2p, ho⟩ := YG ho
    refine SP.indexW (fun w2 hw => slO.whole (St.own 0 rfl see.sub see.dj hw)) Tryz.underlying37 sz45.h Z2p.1 Z2p.2 rfl rfl rfl rfl (fun p112 Z9p => ?_)
    refine SP.fieldO Z9p Tryz.underlying45 rfl sz3.h rfl rfl rfl (fun p114 Z9q => ?_)
    refine SP.storeO (z0 := (⟨(-5), x113.Stack, x113.Heap⟩ : Zq)) (off := 0) (vs := [.int .i64 (-5)]) see 0 rfl Z2p.2 Z9q rfl rfl sz3.h rfl (fun a cs _ e => by subst e; rfl) rfl rfl rfl (gg ?_)
    exact lw ho hr (fun _ z => ⟨(l108.set x110.toNat (⟨(-5), x113.Stack, x113.Heap⟩ : Zq)), (IntKind.i64.wrap (x110 + 1)), v109, z⟩)
   refine CP.exit ?_
   refine QE.thru (by intro e; cases e) ?_
   refine QE.thru (by intro e; cases e) ?_
   refine QE.blockE ?_
   refine QE.blockN ?_
   refine QE.then ?_
   refine CP.region ?_
   refine SP.val (Val.move rfl) rfl rfl rfl ?_
   refine cs (.int .i64 2) ?_
   refine QE.round ?_
   refine LP.step ?_
   refine (CP.seq ?_)
   refine CP.seq ?_
   refine CP.region ?_
   refine SP.val (Val.move rfl) rfl rfl rfl ?_
   refine cs (.bool false) ?_
   refine CP.condF rfl rfl (gg ?_)
   exact fin ho hr ▸ rt
  refine dr ?_
  refine DA.ph 0 2 ?_
  refine DT.tk 0 ?_
  refine DT.tk 1 ?_
  refine dn ?_
  refine d1 2 ?_
  refine d1 3 ?_
  rcases Ws ho with ⟨hc, ho⟩ | ⟨hc, ho⟩
  ·have hg87 := (decide_eq_true hc)
   clear hc
   refine DA.ph 4 7 ?_
   refine DT.is (d := 31) (b := true) rfl hg87 ?_
   refine DT.tn 4 ?_
   refine DT.tn 5 ?_
   refine DT.tn 6 ?_
   refine dn ?_
   refine DA.ph 7 8 ?_
   refine DT.tn 7 ?_
   refine dn ?_
   refine d1 8 ?_
   refine d1 9 ?_
   refine DA.ph 10 12 ?_
   refine DT.tn 10 ?_
   refine DT.tn 11 ?_
   refine dn ?_
   refine DA.ph 12 13 ?_
   refine DT.tn 12 ?_
   refine dn ?_
   refine DA.ph 13 14 ?_
   refine DT.tn 13 ?_
   refine dn ?_
   refine d1 14 ?_
   refine d1 15 ?_
   refine DA.ph 16 19 ?_
   refine DT.tn 16 ?_
   refine DT.tn 17 ?_
   refine DT.tn 18 ?_
   refine dn ?_
   refine DA.ph 19 20 ?_
   refine DT.tn 19 ?_
   refine dn ?_
   refine DA.ph 20 21 ?_
   refine DT.tn 20 ?_
   refine dn ?_
   refine d1 21 ?_
   refine d1 22 ?_
   refine DA.ph 23 25 ?_
   refine DT.tn 23 ?_
   refine DT.tn 24 ?_
   refine dn ?_
   refine DA.ph 25 26 ?_
   refine DT.tn 25 ?_
   refine dn ?_
   refine DA.ph 26 27 ?_
   refine DT.tn 26 ?_
   refine dn ?_
   refine d1 27 ?_
   refine dz ?_
   exact mi ho hr (fun _ z => ⟨true, z⟩) (sO [0, 2, 3, 4, 5, 6, 7])
  have hg88 := (decide_eq_false hc)
  clear hc
  obtain ⟨t89, hc90, ho⟩ := bind_some ho
  refine DA.ph 4 7 ?_
  refine DT.is (d := 31) (b := false) rfl hg88 ?_
  refine tk 4 ?_
  refine DT.tk 6 ?_
  refine DT.one 5 rfl (by kernel_rfl) rfl ?_
  refine SP.callVO see (caps := []) (.int .i64 t89) fn19.h rfl rfl rfl rfl (fun w2 hs => Vq.ok (m_0 := t7) _ hc90 w2 (hp w2) (Sub.refl _) (aS (slO.read (St.own 4 rfl see.sub see.dj hs) (Sub.refl _) (Sub.refl _)) (aS (slO.read (St.own 5 rfl see.sub see.dj hs) (Sub.refl _) (Sub.refl _)) (aS (slD.read (St.own 6 rfl see.sub see.dj hs) (Sub.refl _) (Sub.refl _)) (All.cons ((St.pers 3 rfl see.sub see.dj hs)) (All.nil _)))))) (gg ?_)
  refine QE.atT (fun w2 hw => hw) ?_
  refine dn ?_
  refine d1 7 ?_
  refine d1 8 ?_
  refine d1 9 ?_
  rcases Ws ho with ⟨hc, ho⟩ | ⟨hc, ho⟩
  ·have hg91 := (decide_eq_true hc)
   clear hc
   refine DA.ph 10 12 ?_
   refine DT.is (d := 37) (b := true) rfl hg91 ?_
   refine DT.tn 10 ?_
   refine DT.tn 11 ?_
   refine dn ?_
   refine DA.ph 12 13 ?_
   refine DT.tn 12 ?_
   refine dn ?_
   refine DA.ph 13 14 ?_
   refine DT.tn 13 ?_
   refine dn ?_
   refine d1 14 ?_
   refine d1 15 ?_
   refine DA.ph 16 19 ?_
   refine DT.tn 16 ?_
   refine DT.tn 17 ?_
   refine DT.tn 18 ?_
   refine dn ?_
   refine DA.ph 19 20 ?_
   refine DT.tn 19 ?_
   refine dn ?_
   refine DA.ph 20 21 ?_
   refine DT.tn 20 ?_
   refine dn ?_
   refine d1 21 ?_
   refine d1 22 ?_
   refine DA.ph 23 25 ?_
   refine DT.tn 23 ?_
   refine DT.tn 24 ?_
   refine dn ?_
   refine DA.ph 25 26 ?_
   refine DT.tn 25 ?_
   refine dn ?_
   refine DA.ph 26 27 ?_
   refine DT.tn 26 ?_
   refine dn ?_
   refine d1 27 ?_
   refine dz ?_
   exact mi ho hr (fun _ z => ⟨true, z⟩) (sO [0, 2, 3, 4, 5, 6, 7])
  have hg92 := (decide_eq_false hc)
  clear hc
  refine DA.ph 10 12 ?_
  refine DT.is (d := 37) (b := false) rfl hg92 ?_
  refine DT.tk 10 ?_
  refine DT.tk 11 ?_
  refine dn ?_
  refine d1 12 ?_
  obtain ⟨t93, hc, ho⟩ := bind_some ho
  refine SP.callVO see (caps := []) (.bool t93) fn21.h rfl rfl rfl rfl (fun w2 hs => YX.ok _ hc w2 (hp w2) (Sub.refl _) (aS (slO.read (St.own 0 rfl see.sub see.dj hs) (Sub.refl _) (Sub.refl _)) (aS (slO.read (St.own 2 rfl see.sub see.dj hs) (Sub.refl _) (Sub.refl _)) (All.nil _)))) ?_
  clear hc
  refine gg ?_
  refine d1 13 ?_
  refine d1 14 ?_
  refine d1 15 ?_
  rcases Ws ho with ⟨hc, ho⟩ | ⟨hc, ho⟩
  ·have hg94 := hc
   clear hc
   refine DA.ph 16 19 ?_
   refine DT.is (d := 43) (b := true) rfl hg94 ?_
   refine DT.tn 16 ?_
   refine DT.tn 17 ?_
   refine DT.tn 18 ?_
   refine dn ?_
   refine DA.ph 19 20 ?_
   refine DT.tn 19 ?_
   refine dn ?_
   refine DA.ph 20 21 ?_
   refine DT.tn 20 ?_
   refine dn ?_
   refine d1 21 ?_
   refine d1 22 ?_
   refine DA.ph 23 25 ?_
   refine DT.tn 23 ?_
   refine DT.tn 24 ?_
   refine dn ?_
   refine DA.ph 25 26 ?_
   refine DT.tn 25 ?_
   refine dn ?_
   refine DA.ph 26 27 ?_
   refine DT.tn 26 ?_
   refine dn ?_
   refine d1 27 ?_
   refine dz ?_
   exact mi ho hr (fun _ z => ⟨true, z⟩) (sO [0, 2, 3, 4, 5, 6, 7])
  have hg95 := (bf hc)
  clear hc
  obtain ⟨t96, hc97, ho⟩ := bind_some ho
  refine DA.ph 16 19 ?_
  refine DT.is (d := 43) (b := false) rfl hg95 ?_
  refine tk 16 ?_
  refine tk 18 ?_
  refine DT.one 17 rfl (by kernel_rfl) rfl ?_
  refine SP.callVO see (caps := []) (.int .i64 t96) fn18.h rfl rfl rfl rfl (fun w2 hs => VI.ok (m_0 := t7) _ hc97 w2 (hp w2) (Sub.refl _) (aS (slO.read (St.own 4 rfl see.sub see.dj hs) (Sub.refl _) (Sub.refl _)) (aS (slO.read (St.own 5 rfl see.sub see.dj hs) (Sub.refl _) (Sub.refl _)) (aS (slD.read (St.own 6 rfl see.sub see.dj hs) (Sub.refl _) (Sub.refl _)) (All.cons ((St.pers 3 rfl see.sub see.dj hs)) (All.nil _)))))) (gg ?_)
  refine QE.atT (fun w2 hw => hw) ?_
  refine dn ?_
  refine d1 19 ?_
  refine kv Yu.ok ho fun t98 ho => ?_
  refine d1 20 ?_
  refine d1 21 ?_
  refine d1 22 ?_
  rcases Ws ho with ⟨hc, ho⟩ | ⟨hc, ho⟩
  ·have hg99 := (decide_eq_true hc)
   clear hc
   refine DA.ph 23 25 ?_
   refine DT.is (d := 50) (b := true) rfl hg99 ?_
   refine DT.tn 23 ?_
   refine DT.tn 24 ?_
   refine dn ?_
   refine DA.ph 25 26 ?_
   refine DT.tn 25 ?_
   refine dn ?_
   refine DA.ph 26 27 ?_
   refine DT.tn 26 ?_
   refine dn ?_
   refine d1 27 ?_
   refine dz ?_
   exact mi ho hr (fun _ z => ⟨true, z⟩) (sO [0, 2, 3, 4, 5, 6, 7])
  have hg100 := (decide_eq_false hc)
  clear hc
  refine DA.ph 23 25 ?_
  refine DT.is (d := 50) (b := false) rfl hg100 ?_
  refine tk 23 ?_
  refine tk 24 ?_
  refine dn ?_
  refine d1 25 ?_
  obtain ⟨t101, hc, ho⟩ := bind_some ho
  refine SP.callVO see (caps := []) (.bool t101) fn26.h rfl rfl rfl rfl (fun w2 hs => Yj.ok _ hc w2 (hp w2) (Sub.refl _) (aS (slO.read (St.own 4 rfl see.sub see.dj hs) (Sub.refl _) (Sub.refl _)) (aS (slO.read (St.own 5 rfl see.sub see.dj hs) (Sub.refl _) (Sub.refl _)) (aS (slD.read (St.own 6 rfl see.sub see.dj hs) (Sub.refl _) (Sub.refl _)) (aS ((St.pers 0 rfl see.sub see.dj hs)) (aS ((St.pers 1 rfl see.sub see.dj hs)) (aS ((St.pers 2 rfl see.sub see.dj hs)) (All.nil _)))))))) ?_
  clear hc
  refine gg ?_
  refine d1 26 ?_
  refine d1 27 ?_
  refine dz ?_
  exact mi ho hr (fun _ z => ⟨(!t101), z⟩) (sO [0, 2, 3, 4, 5, 6, 7])
 refine dr ?_
 refine DA.ph 0 2 ?_
 refine DT.tk 0 ?_
 refine DT.tk 1 ?_
 refine dn ?_
 refine d1 2 ?_
 refine d1 3 ?_
 rcases Ws ho with ⟨hc, ho⟩ | ⟨hc, ho⟩
 ·have hg22 := (decide_eq_true hc)
  clear hc
  refine DA.ph 4 7 ?_
  refine DT.is (d := 31) (b := true) rfl hg22 ?_
  refine DT.tn 4 ?_
  refine DT.tn 5 ?_
  refine DT.tn 6 ?_
  refine dn ?_
  refine DA.ph 7 8 ?_
  refine DT.tn 7 ?_
  refine dn ?_
  refine d1 8 ?_
  refine d1 9 ?_
  refine DA.ph 10 12 ?_
  refine DT.tn 10 ?_
  refine DT.tn 11 ?_
  refine dn ?_
  refine DA.ph 12 13 ?_
  refine DT.tn 12 ?_
  refine dn ?_
  refine DA.ph 13 14 ?_
  refine DT.tn 13 ?_
  refine dn ?_
  refine d1 14 ?_
  refine d1 15 ?_
  refine DA.ph 16 19 ?_
  refine DT.tn 16 ?_
  refine DT.tn 17 ?_
  refine DT.tn 18 ?_
  refine dn ?_
  refine DA.ph 19 20 ?_
  refine DT.tn 19 ?_
  refine dn ?_
  refine DA.ph 20 21 ?_
  refine DT.tn 20 ?_
  refine dn ?_
  refine d1 21 ?_
  refine d1 22 ?_
  refine DA.ph 23 25 ?_
  refine DT.tn 23 ?_
  refine DT.tn 24 ?_
  refine dn ?_
  refine DA.ph 25 26 ?_
  refine DT.tn 25 ?_
  refine dn ?_
  refine DA.ph 26 27 ?_
  refine DT.tn 26 ?_
  refine dn ?_
  refine d1 27 ?_
  refine dz ?_
  exact mi ho hr (fun _ z => ⟨true, z⟩)
 have hg23 := (decide_eq_false hc)
 clear hc
 obtain ⟨t24, hc25, ho⟩ := bind_some ho
 refine DA.ph 4 7 ?_
 refine DT.is (d := 31) (b := false) rfl hg23 ?_
 refine tk 4 ?_
 refine DT.tk 6 ?_
 refine DT.one 5 rfl (by kernel_rfl) rfl ?_
 refine SP.callVO see (caps := []) (.int .i64 t24) fn19.h rfl rfl rfl rfl (fun w2 hs => Vq.ok (m_0 := t7) _ hc25 w2 (hp w2) (Sub.refl _) (aS (slO.read (St.own 3 rfl see.sub see.dj hs) (Sub.refl _) (Sub.refl _)) (aS (slO.read (St.own 4 rfl see.sub see.dj hs) (Sub.refl _) (Sub.refl _)) (aS (slD.read (St.own 5 rfl see.sub see.dj hs) (Sub.refl _) (Sub.refl _)) (All.cons ((St.pers 3 rfl see.sub see.dj hs)) (All.nil _)))))) (gg ?_)
 refine QE.atT (fun w2 hw => hw) ?_
 refine dn ?_
 refine d1 7 ?_
 refine d1 8 ?_
 refine d1 9 ?_
 rcases Ws ho with ⟨hc, ho⟩ | ⟨hc, ho⟩
 ·have hg26 := (decide_eq_true hc)
  clear hc
  refine DA.ph 10 12 ?_
  refine DT.is (d := 37) (b := true) rfl hg26 ?_
  refine DT.tn 10 ?_
  refine DT.tn 11 ?_
  refine dn ?_
  refine DA.ph 12 13 ?_
  refine DT.tn 12 ?_
  refine dn ?_
  refine DA.ph 13 14 ?_
  refine DT.tn 13 ?_
  refine dn ?_
  refine d1 14 ?_
  refine d1 15 ?_
  refine DA.ph 16 19 ?_
  refine DT.tn 16 ?_
  refine DT.tn 17 ?_
  refine DT.tn 18 ?_
  refine dn ?_
  refine DA.ph 19 20 ?_
  refine DT.tn 19 ?_
  refine dn ?_
  refine DA.ph 20 21 ?_
  refine DT.tn 20 ?_
  refine dn ?_
  refine d1 21 ?_
  refine d1 22 ?_
  refine DA.ph 23 25 ?_
  refine DT.tn 23 ?_
  refine DT.tn 24 ?_
  refine dn ?_
  refine DA.ph 25 26 ?_
  refine DT.tn 25 ?_
  refine dn ?_
  refine DA.ph 26 27 ?_
  refine DT.tn 26 ?_
  refine dn ?_
  refine d1 27 ?_
  refine dz ?_
  exact mi ho hr (fun _ z => ⟨true, z⟩)
 have hg27 := (decide_eq_false hc)
 clear hc
 refine DA.ph 10 12 ?_
 refine DT.is (d := 37) (b := false) rfl hg27 ?_
 refine DT.tk 10 ?_
 refine DT.tk 11 ?_
 refine dn ?_
 refine d1 12 ?_
 obtain ⟨t28, hc, ho⟩ := bind_some ho
 refine SP.callVO see (caps := []) (.bool t28) fn21.h rfl rfl rfl rfl (fun w2 hs => YX.ok _ hc w2 (hp w2) (Sub.refl _) (aS (slO.read (St.own 0 rfl see.sub see.dj hs) (Sub.refl _) (Sub.refl _)) (aS (slO.read (St.own 1 rfl see.sub see.dj hs) (Sub.refl _) (Sub.refl _)) (All.nil _)))) ?_
 clear hc
 refine gg ?_
 refine d1 13 ?_
 refine d1 14 ?_
 refine d1 15 ?_
 rcases Ws ho with ⟨hc, ho⟩ | ⟨hc, ho⟩
 ·have hg29 := hc
  clear hc
  refine DA.ph 16 19 ?_
  refine DT.is (d := 43) (b := true) rfl hg29 ?_
  refine DT.tn 16 ?_
  refine DT.tn 17 ?_
  refine DT.tn 18 ?_
  refine dn ?_
  refine DA.ph 19 20 ?_
  refine DT.tn 19 ?_
  refine dn ?_
  refine DA.ph 20 21 ?_
  refine DT.tn 20 ?_
  refine dn ?_
  refine d1 21 ?_
  refine d1 22 ?_
  refine DA.ph 23 25 ?_
  refine DT.tn 23 ?_
  refine DT.tn 24 ?_
  refine dn ?_
  refine DA.ph 25 26 ?_
  refine DT.tn 25 ?_
  refine dn ?_
  refine DA.ph 26 27 ?_
  refine DT.tn 26 ?_
  refine dn ?_
  refine d1 27 ?_
  refine dz ?_
  exact mi ho hr (fun _ z => ⟨true, z⟩)
 have hg30 := (bf hc)
 clear hc
 obtain ⟨t31, hc32, ho⟩ := bind_some ho
 refine DA.ph 16 19 ?_
 refine DT.is (d := 43) (b := false) rfl hg30 ?_
 refine tk 16 ?_
 refine tk 18 ?_
 refine DT.one 17 rfl (by kernel_rfl) rfl ?_
 refine SP.callVO see (caps := []) (.int .i64 t31) fn18.h rfl rfl rfl rfl (fun w2 hs => VI.ok (m_0 := t7) _ hc32 w2 (hp w2) (Sub.refl _) (aS (slO.read (St.own 3 rfl see.sub see.dj hs) (Sub.refl _) (Sub.refl _)) (aS (slO.read (St.own 4 rfl see.sub see.dj hs) (Sub.refl _) (Sub.refl _)) (aS (slD.read (St.own 5 rfl see.sub see.dj hs) (Sub.refl _) (Sub.refl _)) (All.cons ((St.pers 3 rfl see.sub see.dj hs)) (All.nil _)))))) (gg ?_)
 refine QE.atT (fun w2 hw => hw) ?_
 refine dn ?_
 refine d1 19 ?_
 refine kv Yu.ok ho fun t33 ho => ?_
 refine d1 20 ?_
 refine d1 21 ?_
 refine d1 22 ?_
 rcases Ws ho with ⟨hc, ho⟩ | ⟨hc, ho⟩
 ·have hg34 := (decide_eq_true hc)
  clear hc
  refine DA.ph 23 25 ?_
  refine DT.is (d := 50) (b := true) rfl hg34 ?_
  refine DT.tn 23 ?_
  refine DT.tn 24 ?_
  refine dn ?_
  refine DA.ph 25 26 ?_
  refine DT.tn 25 ?_
  refine dn ?_
  refine DA.ph 26 27 ?_
  refine DT.tn 26 ?_
  refine dn ?_
  refine d1 27 ?_
  refine dz ?_
  exact mi ho hr (fun _ z => ⟨true, z⟩)
 have hg35 := (decide_eq_false hc)
 clear hc
 refine DA.ph 23 25 ?_
 refine DT.is (d := 50) (b := false) rfl hg35 ?_
 refine tk 23 ?_
 refine tk 24 ?_
 refine dn ?_
 refine d1 25 ?_
 obtain ⟨t36, hc, ho⟩ := bind_some ho
 refine SP.callVO see (caps := []) (.bool t36) fn26.h rfl rfl rfl rfl (fun w2 hs => Yj.ok _ hc w2 (hp w2) (Sub.refl _) (aS (slO.read (St.own 3 rfl see.sub see.dj hs) (Sub.refl _) (Sub.refl _)) (aS (slO.read (St.own 4 rfl see.sub see.dj hs) (Sub.refl _) (Sub.refl _)) (aS (slD.read (St.own 5 rfl see.sub see.dj hs) (Sub.refl _) (Sub.refl _)) (aS ((St.pers 0 rfl see.sub see.dj hs)) (aS ((St.pers 1 rfl see.sub see.dj hs)) (aS ((St.pers 2 rfl see.sub see.dj hs)) (All.nil _)))))))) ?_
 clear hc
 refine gg ?_
 refine d1 26 ?_
 refine d1 27 ?_
 refine dz ?_
 exact mi ho hr (fun _ z => ⟨(!t36), z⟩)
theorem cl5 : Tryz.prog.cellsOf 5 = 1 := by kernel_rfl
end Go.Proofs.YtehjiiebjkkcmaaGreatDoor
end
