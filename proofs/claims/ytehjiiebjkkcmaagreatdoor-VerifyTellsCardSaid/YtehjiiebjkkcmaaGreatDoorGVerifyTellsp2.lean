/- Functions of the program as plain functions, with the proof that the code computes them: printed by gen.py of this session. -/
import Derived.Test.YtehjiiebjkkcmaaGreatDoorProg
import Derived.Test.YtehjiiebjkkcmaaGreatDoorQ33xVerifyTells
import Derived.Test.YtehjiiebjkkcmaaGreatDoorQ42xVerifyTells
import Derived.Ground.GgzProg
import Derived.Ground.Names8Prog
import Derived.Ground.NamesProg
import Derived.Ground.SlgcProg
import Derived.Ground.SlgmProg
import Derived.Ground.SlgnProg
import Derived.Ground.SlsfProg
import Derived.Shelf.Bits.Mul64
import Derived.Shelf.Lay
import Derived.Shelf.SlGeneric
import Derived.Shelf.SlIterI.Nil
import Derived.Shelf.SlSortCmp.WholeK
import Derived.Shelf.SlicesE.Reverse
import Derived.Shelf.SlicesG.Cmp
import Derived.Shelf.SlicesG.CompactI
import Derived.Shelf.Small.Bits
import Derived.Shelf.SortM.Plain
import Derived.Shelf.SortM.SortNone
import Derived.Shelf.Spec.SlicesGrow
import Derived.Test.YtehjiiebjkkcmaaGreatDoorGVerifyTellsp1
set_option linter.unusedVariables false
set_option linter.unusedSimpArgs false
set_option maxRecDepth 20000
set_option maxHeartbeats 2000000
set_option linter.defProp false
set_option warn.classDefReducibility false
noncomputable section
namespace Go.Proofs.YtehjiiebjkkcmaaGreatDoor
open Go.Q
attribute [local irreducible] CP SP QE DA DT Val St
inductive Zt.S where
  | start
  | l1 (x11 : Zb) (x76 : Int)
  | l2 (x11 : Zb) (l115 : List Int) (x117 : Int)
def Zt.j1 (m_0 : Z9) (k_1 : Int) (x11 : Zb) (x76 : Int) (b98 : Bool) : Option (Zt.S ⊕ ((List Int) × Int)) :=
  if b98 = true then (some (.inr ([], 2))) else (some (.inl (.l1 x11 (IntKind.i64.wrap (x76 + 1)))))
def Zt.j2 (m_0 : Z9) (k_1 : Int) (x11 : Zb) (x117 : Int) (l125 : List Int) : Option (Zt.S ⊕ ((List Int) × Int)) :=
  some (.inl (.l2 x11 l125 (IntKind.i64.wrap (x117 + 1))))
def Zt.F (m_0 : Z9) (k_1 : Int) : Zt.S → Option (Zt.S ⊕ ((List Int) × Int))
  | .start => if ((decide (k_1 < 0)) || (decide (k_1 ≥ (m_0.Methods.length : Int)))) = true then (some (.inr ([], 2))) else ((elt m_0.Methods k_1).bind fun x11 => some (.inl (.l1 x11 0)))
  | .l1 x11 x76 => if x76 < (x11.Code.length : Int) then ((elt x11.Code x76).bind fun x80 => if x80.Op = 30 then ((elt x11.Code x76).bind fun x86 => if x86.A < 0 then (Zt.j1 m_0 k_1 x11 x76 true) else ((elt x11.Code x76).bind fun x93 => Zt.j1 m_0 k_1 x11 x76 (decide (x93.A ≥ (m_0.Methods.length : Int))))) else (Zt.j1 m_0 k_1 x11 x76 false)) else (some (.inl (.l2 x11 [] 0)))
  | .l2 x11 l115 x117 => if x117 < (m_0.Methods.length : Int) then ((Xc.f x11 x117).bind fun t119 => if t119 = true then (if (l115.length + [x117].length) * 8 ≤ 140737488355328 then (Zt.j2 m_0 k_1 x11 x117 (l115 ++ [x117])) else none) else (Zt.j2 m_0 k_1 x11 x117 l115)) else (some (.inr (l115, 0)))
def Zt.f (m_0 : Z9) (k_1 : Int) : Option ((List Int) × Int) := runF (Zt.F m_0 k_1) .start
theorem Zt.ok {m_0 k_1 Z4 Z6 Z0} (r) (H : Zt.f m_0 k_1 = some r) : Ok Tryz.prog 105 [.agg #[Z4, Z6, Z0, .int .i64 m_0.Zd], .int .i64 k_1] [slP Z5 Z4 m_0.Zj, slP Z5 Z6 m_0.Pool, slP Z8 Z0 m_0.Methods] fun v => HO.ex fun u0 : Value => HO.pand (v = .tuple #[u0, .int .i64 r.2]) (HO.seps [slO (kInt .i64) 3 u0 r.1]) := by
 refine oq 74 Tryz.func105 fun w hV see pb => ?_
 obtain ⟨m0, o, ho, hr⟩ := rn H
 refine bx fun b4 => ?_
 refine SP.jn 6 [1, 2] 18 (.bool ((decide (k_1 < 0)) || (decide (k_1 ≥ (m_0.Methods.length : Int))))) ?_ ?_
 ·refine gg ?_
  refine cb ho (fun ho => ?_) fun ho => ?_
  ·exact fin ho hr ▸ rt (fun _ h => St.selO [0] rfl rfl (St.addO (slO.nil (kInt .i64) 3) h))
  refine ip 2 ho fun x11 ho p9 => ?_
  refine Z8.load see 0 rfl Tryz.underlying34 rfl sz34.h rfl rfl rfl (fun v12 v14 v16 => ?_)
  refine al (h := fun _ => id) fun b18 => ?_
  refine sp (h := id) 0 fun Z1E => ?_
  refine sp (h := id) 1 fun Z1F => ?_
  refine sp 2 fun Z0c => ?_
  refine st 0 ?_
  refine lo ho hr (fun z => ∃ x76, z (.l1 x11 x76) [(2, .pointer (some ⟨b4, 0, none⟩)), (6, .pointer (some ⟨b18, 0, none⟩)), (7, .int .i64 x76)] [boxO b18 [v12, v14, .int .u8 x11.Result, .bool x11.Reads, .int .i64 x11.Fuel, .int .i64 x11.Stack, .int .i64 x11.Heap, v16] 34, boxO b4 [Z4, Z6, Z0, .int .i64 m_0.Zd] 25]) (fun _ z => ⟨0, z⟩) ?_ (hb := pe [slP (kInt .u8) v12 x11.Args, slP (kInt .u8) v14 x11.Locals, slP Za v16 x11.Code, slP Z5 Z4 m_0.Zj, slP Z5 Z6 m_0.Pool, slP Z8 Z0 m_0.Methods])
  rintro _ _ _ ⟨x76, m77, o, _, _, ho, hr, h⟩
  refine en h ?_
  refine ci (ht := id) ho (fun ho => ?_) fun ho => ?_
  ·refine go ?_
   refine CP.seq ?_
   refine go ?_
   refine ji hr (fun z => ∃ b98, z (Zt.j1 m_0 k_1 x11 x76 b98) [(2, .pointer (some ⟨b4, 0, none⟩)), (6, .pointer (some ⟨b18, 0, none⟩)), (7, .int .i64 x76), (58, .bool b98)] [boxO b18 [v12, v14, .int .u8 x11.Result, .bool x11.Reads, .int .i64 x11.Fuel, .int .i64 x11.Stack, .int .i64 x11.Heap, v16] 34, boxO b4 [Z4, Z6, Z0, .int .i64 m_0.Zd] 25]) ?_ ?_ (hb := pe [slP (kInt .u8) v12 x11.Args, slP (kInt .u8) v14 x11.Locals, slP Za v16 x11.Code, slP Z5 Z4 m_0.Zj, slP Z5 Z6 m_0.Pool, slP Z8 Z0 m_0.Methods])
   ·rintro _ _ ⟨b98, m99, o, _, ho, hr, h⟩
    refine en h ?_
    refine cb ho (fun ho => ?_) fun ho => ?_
    ·exact fin ho hr ▸ rt (fun _ h => St.selO [0] rfl rfl (St.addO (slO.nil (kInt .i64) 3) h))
    exact lw ho hr (fun _ z => ⟨(IntKind.i64.wrap (x76 + 1)), z⟩)
   refine dr ?_
   refine DA.ph 0 3 ?_
   refine DT.tk 0 ?_
   refine DT.tk 1 ?_
   refine DT.tk 2 ?_
   refine dn ?_
   refine d1 3 ?_
   refine ip 2 ho fun x80 ho p78 => ?_
   refine d1 4 ?_
   refine SP.fieldP see 0 rfl Tryz.underlying43 rfl sz5.h Za.U1 rfl rfl rfl (fun p81 => gg ?_)
   refine d1 5 ?_
   refine SP.val (Val.loadP1 see 0 rfl (fun _ _ e => e) Tryz.underlying5 rfl rfl) rfl rfl rfl (gg ?_)
   refine d1 6 ?_
   refine d1 7 ?_
   rcases Ws ho with ⟨hc, ho⟩ | ⟨hc, ho⟩
   ·have hg83 := (decide_eq_true hc)
    clear hc
    refine DA.ph 8 11 ?_
    refine DT.is (d := 38) (b := true) rfl hg83 ?_
    refine DT.tk 8 ?_
    refine DT.tk 9 ?_
    refine DT.tk 10 ?_
    refine dn ?_
    refine d1 11 ?_
    refine ip 4 ho fun x86 ho p84 => ?_
    refine d1 12 ?_
    refine SP.fieldP see 0 rfl Tryz.underlying43 rfl sz3.h Za.Uf rfl rfl rfl (fun p87 => gg ?_)
    refine d1 13 ?_
    refine SP.val (Val.loadP1 see 0 rfl (fun _ _ e => e) Tryz.underlying3 rfl rfl) rfl rfl rfl (gg ?_)
    refine d1 14 ?_
    refine d1 15 ?_
    rcases Ws ho with ⟨hc, ho⟩ | ⟨hc, ho⟩
    ·have hg89 := (decide_eq_true hc)
     clear hc
     refine DA.ph 16 25 ?_
     refine DT.is (d := 46) (b := true) rfl hg89 ?_
     refine DT.tn 16 ?_
     refine DT.tn 17 ?_
     refine DT.tn 18 ?_
     refine DT.tn 19 ?_
     refine DT.tn 20 ?_
     refine DT.tn 21 ?_
     refine DT.tn 22 ?_
     refine DT.tn 23 ?_
     refine DT.tn 24 ?_
     refine dn ?_
     refine DA.ph 25 26 ?_
     refine DT.tn 25 ?_
     refine dn ?_
     refine d1 26 ?_
     refine d1 27 ?_
     refine dz ?_
     exact mi ho hr (fun _ z => ⟨true, z⟩)
    have hg90 := (decide_eq_false hc)
    clear hc
    refine ge 6 ho fun x93 ho p91 Z1C => ?_
    refine DA.ghost (fun w2 h => h.fieldE see 0 rfl Za.Uf) (fun p94 Z5b => ?_)
    refine gu 0 ?_
    refine DA.ph 16 25 ?_
    refine DT.is (d := 46) (b := false) rfl hg90 ?_
    refine DT.tk 16 ?_
    refine DT.tk 17 ?_
    refine DT.tk 18 ?_
    refine DT.tv 19 rfl (Val.ie rfl rfl Z1C) ?_
    refine DT.tv 20 rfl (Val.fe rfl Z5b) ?_
    refine tk 21 ?_
    refine DT.tk 22 ?_
    refine DT.tk 23 ?_
    refine DT.tk 24 ?_
    refine dn ?_
    refine d1 25 ?_
    refine d1 26 ?_
    refine d1 27 ?_
    refine dz ?_
    exact mi ho hr (fun _ z => ⟨(decide (x93.A ≥ (m_0.Methods.length : Int))), z⟩)
   have hg97 := (decide_eq_false hc)
   clear hc
   refine DA.ph 8 11 ?_
   refine DT.is (d := 38) (b := false) rfl hg97 ?_
   refine DT.tn 8 ?_
   refine DT.tn 9 ?_
   refine DT.tn 10 ?_
   refine dn ?_
   refine DA.ph 11 12 ?_
   refine DT.tn 11 ?_
   refine dn ?_
   refine DA.ph 12 13 ?_
   refine DT.tn 12 ?_
   refine dn ?_
   refine DA.ph 13 14 ?_
   refine DT.tn 13 ?_
   refine dn ?_
   refine DA.ph 14 15 ?_
   refine DT.tn 14 ?_
   refine dn ?_
   refine DA.ph 15 16 ?_
   refine DT.tn 15 ?_
   refine dn ?_
   refine DA.ph 16 25 ?_
   refine DT.tn 16 ?_
   refine DT.tn 17 ?_
   refine DT.tn 18 ?_
   refine DT.tn 19 ?_
   refine DT.tn 20 ?_
   refine DT.tn 21 ?_
   refine DT.tn 22 ?_
   refine DT.tn 23 ?_
   refine DT.tn 24 ?_
   refine dn ?_
   refine DA.ph 25 26 ?_
   refine DT.tn 25 ?_
   refine dn ?_
   refine DA.ph 26 27 ?_
   refine DT.tn 26 ?_
   refine dn ?_
   refine d1 27 ?_
   refine dz ?_
   exact mi ho hr (fun _ z => ⟨false, z⟩)
  refine lo ho hr (fun z => ∃ l115 x117 v116, z (.l2 x11 l115 x117) [(2, .pointer (some ⟨b4, 0, none⟩)), (6, .pointer (some ⟨b18, 0, none⟩)), (8, v116), (9, .int .i64 x117)] [slO (kInt .i64) 3 v116 l115, boxO b18 [v12, v14, .int .u8 x11.Result, .bool x11.Reads, .int .i64 x11.Fuel, .int .i64 x11.Stack, .int .i64 x11.Heap, v16] 34, boxO b4 [Z4, Z6, Z0, .int .i64 m_0.Zd] 25]) (fun _ z => ⟨[], 0, (.slice none 0 0), z⟩) ?_ (fun _ hw => (St.addO (slO.nil (kInt .i64) 3) hw)) (hb := pe [slP (kInt .u8) v12 x11.Args, slP (kInt .u8) v14 x11.Locals, slP Za v16 x11.Code, slP Z5 Z4 m_0.Zj, slP Z5 Z6 m_0.Pool, slP Z8 Z0 m_0.Methods])
  rintro _ _ _ ⟨l115, x117, v116, m118, o, _, _, ho, hr, h⟩
  refine en h ?_
  refine ci (ht := id) ho (fun ho => ?_) fun ho => ?_
  ·refine go ?_
   refine ji hr (fun z => ∃ l125 v126, z (Zt.j2 m_0 k_1 x11 x117 l125) [(2, .pointer (some ⟨b4, 0, none⟩)), (6, .pointer (some ⟨b18, 0, none⟩)), (8, v126), (9, .int .i64 x117)] [slO (kInt .i64) 3 v126 l125, boxO b18 [v12, v14, .int .u8 x11.Result, .bool x11.Reads, .int .i64 x11.Fuel, .int .i64 x11.Stack, .int .i64 x11.Heap, v16] 34, boxO b4 [Z4, Z6, Z0, .int .i64 m_0.Zd] 25]) ?_ ?_ (hb := pe [slP (kInt .u8) v12 x11.Args, slP (kInt .u8) v14 x11.Locals, slP Za v16 x11.Code, slP Z5 Z4 m_0.Zj, slP Z5 Z6 m_0.Pool, slP Z8 Z0 m_0.Methods])
   ·rintro _ _ ⟨l125, v126, m127, o, _, ho, hr, h⟩
    refine en h ?_
    exact lw ho hr (fun _ z => ⟨l125, (IntKind.i64.wrap (x117 + 1)), v126, z⟩)
   refine gg ?_
   refine kv Xc.ok ho fun t119 ho => ?_
   refine cb ho (fun ho => ?_) fun ho => ?_
   ·refine li (h := fun _ => id) (kInt .i64) [x117] fun v120 => ?_
    refine fz 0 ?_
    refine ap 0 0 ho fun v122 ho => ?_
    exact mi ho hr (fun _ z => ⟨(l115 ++ [x117]), v122, z⟩)
   exact mi ho hr (fun _ z => ⟨l115, v116, z⟩)
  exact fin ho hr ▸ rt (sO [0])
 refine bb 12 (fun hq7 => ?_) fun hq7 => ?_
 ·exact jb (WL hq7)
 exact jb (WM hq7 rfl)
inductive Xd.S where
  | start
  | l1 (x6 : Int)
def Xd.F (l_0 : List Int) (n_1 : Int) : Xd.S → Option (Xd.S ⊕ Bool)
  | .start => some (.inl (.l1 0))
  | .l1 x6 => if x6 < (l_0.length : Int) then ((elt l_0 x6).bind fun x10 => if x10 = n_1 then (some (.inr true)) else (some (.inl (.l1 (IntKind.i64.wrap (x6 + 1)))))) else (some (.inr false))
def Xd.f (l_0 : List Int) (n_1 : Int) : Option Bool := runF (Xd.F l_0 n_1) .start
theorem Xd.ok {l_0 n_1 Y2} (r) (H : Xd.f l_0 n_1 = some r) : Ok Tryz.prog 106 [Y2, .int .i64 n_1] [slP (kInt .i64) Y2 l_0] fun v => HO.pure (v = .bool r) := by
 refine oq 18 Tryz.func106 fun w hV see pb => ?_
 obtain ⟨m0, o, ho, hr⟩ := rn H
 refine lo ho hr (fun z => ∃ x6, z (.l1 x6) [(0, Y2), (1, .int .i64 n_1), (5, .int .i64 x6)] []) (fun _ z => ⟨0, z⟩) ?_
 rintro _ _ _ ⟨x6, m7, o, _, _, ho, hr, h⟩
 refine en h ?_
 refine ci ho (fun ho => ?_) fun ho => ?_
 ·refine ip 0 ho fun x10 ho p8 => ?_
  refine SP.val (Val.loadP1 see 0 rfl (fun _ _ e => e) Tryz.underlying3 rfl rfl) rfl rfl rfl (gg ?_)
  refine ci ho (fun ho => ?_) fun ho => ?_
  ·exact fin ho hr ▸ rt
  exact lw ho hr (fun _ z => ⟨(IntKind.i64.wrap (x6 + 1)), z⟩)
 exact fin ho hr ▸ rt
inductive Zu.S where
  | start
  | l1 (x150 : Int)
  | l2 (l224 : List Int)
  | l3 (l224 : List Int) (x255 x256 : Int)
  | l4 (l224 : List Int) (x255 x256 : Int) (t260 : (List Int) × Int) (b271 : Bool) (x272 : Int)
def Zu.j1 (m_0 : Z9) (l224 : List Int) (x256 x282 : Int) : Option (Zu.S ⊕ ((List Int) × Int)) :=
  some (.inl (.l3 l224 x282 (IntKind.i64.wrap (x256 + 1))))
def Zu.F (m_0 : Z9) : Zu.S → Option (Zu.S ⊕ ((List Int) × Int))
  | .start => some (.inl (.l1 0))
  | .l1 x150 => if x150 < (m_0.Methods.length : Int) then ((Zt.f m_0 x150).bind fun t152 => if t152.2 ≠ 0 then (some (.inr ([], t152.2))) else (some (.inl (.l1 (IntKind.i64.wrap (x150 + 1)))))) else (some (.inl (.l2 [])))
  | .l2 l224 => if (l224.length : Int) < (m_0.Methods.length : Int) then (some (.inl (.l3 l224 (-1) 0))) else (some (.inr (l224, 0)))
  | .l3 l224 x255 x256 => if ((decide (x256 < (m_0.Methods.length : Int))) && (decide (x255 < 0))) = true then ((Zt.f m_0 x256).bind fun t260 => (Xd.f l224 x256).bind fun t263 => some (.inl (.l4 l224 x255 x256 t260 (!t263) 0))) else (if x255 < 0 then (some (.inr ([], 110))) else (if (l224.length + [x255].length) * 8 ≤ 140737488355328 then (some (.inl (.l2 (l224 ++ [x255])))) else none))
  | .l4 l224 x255 x256 t260 b271 x272 => if x272 < (t260.1.length : Int) then ((if b271 = true then ((elt t260.1 x272).bind fun x277 => (Xd.f l224 x277).bind fun t278 => some t278) else (some false)).bind fun t279 => some (.inl (.l4 l224 x255 x256 t260 t279 (IntKind.i64.wrap (x272 + 1))))) else (if b271 = true then (Zu.j1 m_0 l224 x256 x256) else (Zu.j1 m_0 l224 x256 x255))
def Zu.f (m_0 : Z9) : Option ((List Int) × Int) := runF (Zu.F m_0) .start
theorem Zu.ok {m_0 Z4 Z6 Z0} (r) (H : Zu.f m_0 = some r) : Ok Tryz.prog 53 [.agg #[Z4, Z6, Z0, .int .i64 m_0.Zd]] [slP Z5 Z4 m_0.Zj, slP Z5 Z6 m_0.Pool, slP Z8 Z0 m_0.Methods] fun v => HO.ex fun u0 : Value => HO.pand (v = .tuple #[u0, .int .i64 r.2]) (HO.seps [slO (kInt .i64) 3 u0 r.1]) := by
 refine oq 81 Tryz.func53 fun w hV see pb => ?_
 obtain ⟨m0, o, ho, hr⟩ := rn H
 refine bx fun b4 => ?_
 refine lo ho hr (fun z => ∃ x150, z (.l1 x150) [(1, .pointer (some ⟨b4, 0, none⟩)), (4, .int .i64 x150)] [boxO b4 [Z4, Z6, Z0, .int .i64 m_0.Zd] 25]) (fun _ z => ⟨0, z⟩) ?_
 rintro _ _ _ ⟨x150, m151, o, _, _, ho, hr, h⟩
 refine en h ?_
 refine ci ho (fun ho => ?_) fun ho => ?_
 ·refine k1 Zt.ok ho fun t152 ho v153 => ?_
  refine ci ho (fun ho => ?_) fun ho => ?_
  ·exact fin ho hr ▸ rt (fun _ h => St.selO [0] rfl rfl (St.addO (slO.nil (kInt .i64) 3) h))
  exact lw ho hr (fun _ z => ⟨(IntKind.i64.wrap (x150 + 1)), z⟩) (sO [1])
 refine lo ho hr (fun z => ∃ l224 v225, z (.l2 l224) [(1, .pointer (some ⟨b4, 0, none⟩)), (7, v225)] [slO (kInt .i64) 3 v225 l224, boxO b4 [Z4, Z6, Z0, .int .i64 m_0.Zd] 25]) (fun _ z => ⟨[], (.slice none 0 0), z⟩) ?_ (fun _ hw => (St.addO (slO.nil (kInt .i64) 3) hw))
 rintro _ _ _ ⟨l224, v225, m226, o, _, _, ho, hr, h⟩
 refine en h ?_
 refine ci ho (fun ho => ?_) fun ho => ?_
 ·refine lo ho hr (fun z => ∃ x255 x256, z (.l3 l224 x255 x256) [(1, .pointer (some ⟨b4, 0, none⟩)), (7, v225), (8, .int .i64 x255), (9, .int .i64 x256)] [slO (kInt .i64) 3 v225 l224, boxO b4 [Z4, Z6, Z0, .int .i64 m_0.Zd] 25]) (fun _ z => ⟨(-1), 0, z⟩) ?_
  rintro _ _ _ ⟨x255, x256, m257, o, _, _, ho, hr, h⟩
  refine en h ?_
  refine SP.jn 3 [1, 7, 8, 9] 44 (.bool ((decide (x256 < (m_0.Methods.length : Int))) && (decide (x255 < 0)))) ?_ ?_
  ·refine gg ?_
   refine cb (ht := id) ho (fun ho => ?_) fun ho => ?_
   ·refine go ?_
    refine ji hr (fun z => ∃ x282, z (Zu.j1 m_0 l224 x256 x282) [(1, .pointer (some ⟨b4, 0, none⟩)), (7, v225), (8, .int .i64 x282), (9, .int .i64 x256)] [slO (kInt .i64) 3 v225 l224, boxO b4 [Z4, Z6, Z0, .int .i64 m_0.Zd] 25]) ?_ ?_
    ·rintro _ _ ⟨x282, m283, o, _, ho, hr, h⟩
     refine en h ?_
     exact lw ho hr (fun _ z => ⟨x282, (IntKind.i64.wrap (x256 + 1)), z⟩)
    refine gg ?_
    refine k1 Zt.ok ho fun t260 ho v261 => ?_
    obtain ⟨t263, hc, ho⟩ := bind_some ho
    refine SP.callVO see (caps := []) (.bool t263) fn106.h rfl rfl rfl rfl (fun w2 hs => Xd.ok _ hc w2 (hp w2) (Sub.refl _) (aS (slO.read (St.own 1 rfl see.sub see.dj hs) (Sub.refl _) (Sub.refl _)) (All.nil _))) ?_
    clear hc
    refine gg ?_
    refine lo ho hr (fun z => ∃ b271 x272, z (.l4 l224 x255 x256 t260 b271 x272) [(1, .pointer (some ⟨b4, 0, none⟩)), (7, v225), (8, .int .i64 x255), (9, .int .i64 x256), (10, v261), (12, .bool b271), (13, .int .i64 x272)] [slO (kInt .i64) 3 v261 t260.1, slO (kInt .i64) 3 v225 l224, boxO b4 [Z4, Z6, Z0, .int .i64 m_0.Zd] 25]) (fun _ z => ⟨(!t263), 0, z⟩) ?_
    rintro _ _ _ ⟨b271, x272, m273, o, _, _, ho, hr, h⟩
    refine en h ?_
    refine ci ho (fun ho => ?_) fun ho => ?_
    ·obtain ⟨t279, Z4G, ho⟩ := bind_some ho
     refine SP.jn 7 [1, 7, 8, 9, 10, 13] 71 (.bool t279) ?_ ?_
     ·clear Z4G
      refine gg ?_
      exact lw ho hr (fun _ z => ⟨t279, (IntKind.i64.wrap (x272 + 1)), z⟩)
     refine bc 64 Z4G (fun hq275 ho => ?_) fun hq275 ho => ?_
     ·obtain ⟨x277, Z2k, ho⟩ := YG ho
      refine SP.indexW (fun w2 hw => slO.whole (St.own 0 rfl see.sub see.dj hw)) Tryz.underlying48 sz3.h Z2k.1 Z2k.2 rfl rfl rfl rfl (fun p276 Z96 => ?_)
      refine SP.val (Val.loadW1 (off := 0) (k := (kInt .i64)) (fun w2 hw => slO.whole (St.own 0 rfl see.sub see.dj hw)) Z2k.2 Z96 (fun _ _ e => by subst e; rfl) Tryz.underlying3 rfl rfl) rfl rfl rfl ?_
      obtain ⟨t278, hc, ho⟩ := bind_some ho
      refine SP.callVO see (caps := []) (.bool t278) fn106.h rfl rfl rfl rfl (fun w2 hs => Xd.ok _ hc w2 (hp w2) (Sub.refl _) (aS (slO.read (St.own 1 rfl see.sub see.dj hs) (Sub.refl _) (Sub.refl _)) (All.nil _))) ?_
      clear hc
      refine gg ?_
      obtain rfl := Option.some.inj ho
      exact jn
     obtain rfl := Option.some.inj ho
     exact jn
    refine cb ho (fun ho => ?_) fun ho => ?_
    ·exact mi ho hr (fun _ z => ⟨x256, z⟩) (sO [1, 2])
    exact mi ho hr (fun _ z => ⟨x255, z⟩) (sO [1, 2])
   refine ci ho (fun ho => ?_) fun ho => ?_
   ·exact fin ho hr ▸ rt (fun _ h => St.selO [0] rfl rfl (St.addO (slO.nil (kInt .i64) 3) h))
   refine li (h := fun _ => id) (kInt .i64) [x255] fun v285 => ?_
   refine fz 0 ?_
   refine ap 0 0 ho fun v287 ho => ?_
   exact lw ho hr (fun _ z => ⟨(l224 ++ [x255]), v287, z⟩)
  refine bb 41 (fun hq259 => ?_) fun hq259 => ?_
  ·exact jb (XT hq259 rfl)
  exact jb (XU hq259)
 exact fin ho hr ▸ rt (sO [0])
inductive ZI.S where
  | start
  | l1 (t2 : (List Zr) × Int) (l47 : List Int) (x49 : Int)
  | l2 (t2 : (List Zr) × Int) (l47 : List Int) (x49 x67 x68 : Int)
def ZI.j1 (l_0 : List Z7) (t2 : (List Zr) × Int) (l47 : List Int) (x49 x68 x79 : Int) : Option (ZI.S ⊕ ((List Int) × Int)) :=
  some (.inl (.l2 t2 l47 x49 x79 (IntKind.i64.wrap (x68 + 1))))
def ZI.F (l_0 : List Z7) : ZI.S → Option (ZI.S ⊕ ((List Int) × Int))
  | .start => (Zi.f l_0).bind fun t2 => if t2.2 ≠ 0 then (some (.inr ([], t2.2))) else (some (.inl (.l1 t2 [] 0)))
  | .l1 t2 l47 x49 => if x49 < (l_0.length : Int) then (some (.inl (.l2 t2 l47 x49 1 0))) else (some (.inr (l47, 0)))
  | .l2 t2 l47 x49 x67 x68 => if x68 < (t2.1.length : Int) then ((elt t2.1 x68).bind fun x72 => (X3.f x72 x49).bind fun t73 => if t73 = true then ((elt t2.1 x68).bind fun x76 => ZI.j1 l_0 t2 l47 x49 x68 (IntKind.i64.wrap (x67 * x76.Turns))) else (ZI.j1 l_0 t2 l47 x49 x68 x67)) else (if (l47.length + [x67].length) * 8 ≤ 140737488355328 then (some (.inl (.l1 t2 (l47 ++ [x67]) (IntKind.i64.wrap (x49 + 1))))) else none)
def ZI.f (l_0 : List Z7) : Option ((List Int) × Int) := runF (ZI.F l_0) .start
theorem ZI.ok {l_0 Y2} (r) (H : ZI.f l_0 = some r) : Ok Tryz.prog 170 [Y2] [slP Za Y2 l_0] fun v => HO.ex fun u0 : Value => HO.pand (v = .tuple #[u0, .int .i64 r.2]) (HO.seps [slO (kInt .i64) 3 u0 r.1]) := by
 refine oq 48 Tryz.func170 fun w hV see pb => ?_
 obtain ⟨m0, o, ho, hr⟩ := rn H
 obtain ⟨t2, hc, ho⟩ := bind_some ho
 refine SP.callK see (caps := []) _ fn100.h rfl rfl rfl rfl (fun w2 hP hs sub ap => Zi.ok _ hc w2 hP sub (aS (ap.get 0 rfl) (All.nil _))) (SP.k1 fun v3 => ?_)
 refine SP.imp (fun w2 h => St.toP 0 rfl h) ?_
 clear hc
 refine gg ?_
 refine ci ho (fun ho => ?_) fun ho => ?_
 ·exact fin ho hr ▸ rt (fun _ h => St.selO [0] rfl rfl (St.addO (slO.nil (kInt .i64) 3) h))
 refine lo ho hr (fun z => ∃ l47 x49 v48, z (.l1 t2 l47 x49) [(0, Y2), (4, v3), (6, v48), (7, .int .i64 x49)] [slO (kInt .i64) 3 v48 l47]) (fun _ z => ⟨[], 0, (.slice none 0 0), z⟩) ?_ (fun _ hw => (St.addO (slO.nil (kInt .i64) 3) hw)) (hb := pe [slP ZJ v3 t2.1, slP Za Y2 l_0])
 rintro _ _ _ ⟨l47, x49, v48, m50, o, _, _, ho, hr, h⟩
 refine en h ?_
 refine ci ho (fun ho => ?_) fun ho => ?_
 ·refine lo ho hr (fun z => ∃ x67 x68, z (.l2 t2 l47 x49 x67 x68) [(0, Y2), (4, v3), (6, v48), (7, .int .i64 x49), (8, .int .i64 x67), (9, .int .i64 x68)] [slO (kInt .i64) 3 v48 l47]) (fun _ z => ⟨1, 0, z⟩) ?_ (hb := pe [slP ZJ v3 t2.1, slP Za Y2 l_0])
  rintro _ _ _ ⟨x67, x68, m69, o, _, _, ho, hr, h⟩
  refine en h ?_
  refine ci (ht := id) ho (fun ho => ?_) fun ho => ?_
  ·refine go ?_
   refine ji hr (fun z => ∃ x79, z (ZI.j1 l_0 t2 l47 x49 x68 x79) [(0, Y2), (4, v3), (6, v48), (7, .int .i64 x49), (8, .int .i64 x79), (9, .int .i64 x68)] [slO (kInt .i64) 3 v48 l47]) ?_ ?_ (hb := pe [slP ZJ v3 t2.1, slP Za Y2 l_0])
   ·rintro _ _ ⟨x79, m80, o, _, ho, hr, h⟩
    refine en h ?_
    exact lw ho hr (fun _ z => ⟨x79, (IntKind.i64.wrap (x68 + 1)), z⟩)
   refine gg ?_
   refine ip 0 ho fun x72 ho p70 => ?_
   refine ld 0 ?_
   refine kv X3.ok ho fun t73 ho => ?_
   refine cb ho (fun ho => ?_) fun ho => ?_
   ·refine ip 1 ho fun x76 ho p74 => ?_
    refine SP.fieldP see 0 rfl Tryz.underlying218 rfl sz3.h ZJ.Z57 rfl rfl rfl (fun p77 => ?_)
    refine SP.val (Val.loadP1 see 0 rfl (fun _ _ e => e) Tryz.underlying3 rfl rfl) rfl rfl rfl (gg ?_)
    exact mi ho hr (fun _ z => ⟨(IntKind.i64.wrap (x67 * x76.Turns)), z⟩)
   exact mi ho hr (fun _ z => ⟨x67, z⟩)
  refine li (h := fun _ => id) (kInt .i64) [x67] fun v81 => ?_
  refine fz 0 ?_
  refine ap 0 0 ho fun v83 ho => ?_
  exact lw ho hr (fun _ z => ⟨(l47 ++ [x67]), (IntKind.i64.wrap (x49 + 1)), v83, z⟩)
 exact fin ho hr ▸ rt (sO [0])
inductive Yg.S where
  | start
  | l1 (x19 x20 : Int)
def Yg.j1 (V5 : List Zx) (x20 x36 : Int) : Option (Yg.S ⊕ Int) :=
  some (.inl (.l1 x36 (IntKind.i64.wrap (x20 + 1))))
def Yg.F (V5 : List Zx) : Yg.S → Option (Yg.S ⊕ Int)
  | .start => some (.inl (.l1 0 0))
  | .l1 x19 x20 => if x20 < (V5.length : Int) then ((elt V5 x20).bind fun x24 => if (x24.Kinds.length : Int) > x19 then ((elt V5 x20).bind fun x31 => Yg.j1 V5 x20 (x31.Kinds.length : Int)) else (Yg.j1 V5 x20 x19)) else (some (.inr x19))
def Yg.f (V5 : List Zx) : Option Int := runF (Yg.F V5) .start
theorem Yg.ok {V5 Te} (r) (H : Yg.f V5 = some r) : Ok Tryz.prog 171 [Te] [slP Y9 Te V5] fun v => HO.pure (v = .int .i64 r) := by
 refine oq 26 Tryz.func171 fun w hV see pb => ?_
 obtain ⟨m0, o, ho, hr⟩ := rn H
 refine lo ho hr (fun z => ∃ x19 x20, z (.l1 x19 x20) [(0, Te), (3, .int .i64 x19), (4, .int .i64 x20)] []) (fun _ z => ⟨0, 0, z⟩) ?_
 rintro _ _ _ ⟨x19, x20, m21, o, _, _, ho, hr, h⟩
 refine en h ?_
 refine ci (ht := id) ho (fun ho => ?_) fun ho => ?_
 ·refine go ?_
  refine ji hr (fun z => ∃ x36, z (Yg.j1 V5 x20 x36) [(0, Te), (3, .int .i64 x36), (4, .int .i64 x20)] []) ?_ ?_
  ·rintro _ _ ⟨x36, m37, o, _, ho, hr, h⟩
   refine en h ?_
   exact lw ho hr (fun _ z => ⟨x36, (IntKind.i64.wrap (x20 + 1)), z⟩)
  refine gg ?_
  refine ip 0 ho fun x24 ho p22 => ?_
  refine SP.fieldP see 0 rfl Tryz.underlying155 rfl sz31.h Y9.JJ rfl rfl rfl (fun p25 => ?_)
  refine SP.loadPS see 0 rfl Tryz.underlying31 rfl rfl rfl (fun v27 => gg ?_)
  refine ci ho (fun ho => ?_) fun ho => ?_
  ·refine ip 3 ho fun x31 ho p29 => ?_
   refine SP.fieldP see 0 rfl Tryz.underlying155 rfl sz31.h Y9.JJ rfl rfl rfl (fun p32 => ?_)
   refine SP.loadPS see 0 rfl Tryz.underlying31 rfl rfl rfl (fun v34 => gg ?_)
   exact mi ho hr (fun _ z => ⟨(x31.Kinds.length : Int), z⟩)
  exact mi ho hr (fun _ z => ⟨x19, z⟩)
 exact fin ho hr ▸ rt
inductive ZW.S where
  | start
  | l1 (x11 : Zb) (t23 : (List Int) × Int) (l148 : List Zx) (x150 x151 x152 x153 : Int)
def ZW.j1 (m_0 : Z9) (k_1 : Int) (Xf : List Zq) (x11 : Zb) (t23 : (List Int) × Int) (l148 : List Zx) (x150 x206 x207 x208 : Int) : Option (ZW.S ⊕ Zq) :=
  some (.inl (.l1 x11 t23 l148 (IntKind.i64.wrap (x150 + 1)) x206 x207 x208))
def ZW.j2 (m_0 : Z9) (k_1 : Int) (Xf : List Zq) (x11 : Zb) (t23 : (List Int) × Int) (l148 : List Zx) (x150 x151 x152 : Int) (x157 : Z7) (x162 x168 : Int) : Option (ZW.S ⊕ Zq) :=
  if x157.Op ≠ 30 then (ZW.j1 m_0 k_1 Xf x11 t23 l148 x150 (IntKind.i64.wrap (x151 + x162)) x152 x168) else ((elt Xf x157.A).bind fun x172 => (elt t23.1 x150).bind fun x177 => (elt t23.1 x150).bind fun x181 => (elt l148 x150).bind fun x185 => (elt m_0.Methods x157.A).bind fun x193 => (elt l148 x150).bind fun x201 => if (x201.Reached && (decide ((IntKind.i64.wrap ((IntKind.i64.wrap ((IntKind.i64.wrap ((IntKind.i64.wrap ((x11.Args.length : Int) + (x11.Locals.length : Int))) + (x185.Kinds.length : Int))) - (x193.Args.length : Int))) + x172.Stack)) > x152))) = true then (ZW.j1 m_0 k_1 Xf x11 t23 l148 x150 (IntKind.i64.wrap ((IntKind.i64.wrap (x151 + x162)) + (IntKind.i64.wrap (x177 * x172.Fuel)))) (IntKind.i64.wrap ((IntKind.i64.wrap ((IntKind.i64.wrap ((IntKind.i64.wrap ((x11.Args.length : Int) + (x11.Locals.length : Int))) + (x185.Kinds.length : Int))) - (x193.Args.length : Int))) + x172.Stack)) (IntKind.i64.wrap (x168 + (IntKind.i64.wrap (x181 * x172.Heap))))) else (ZW.j1 m_0 k_1 Xf x11 t23 l148 x150 (IntKind.i64.wrap ((IntKind.i64.wrap (x151 + x162)) + (IntKind.i64.wrap (x177 * x172.Fuel)))) x152 (IntKind.i64.wrap (x168 + (IntKind.i64.wrap (x181 * x172.Heap))))))
def ZW.F (m_0 : Z9) (k_1 : Int) (Xf : List Zq) : ZW.S → Option (ZW.S ⊕ Zq)
  | .start => (elt m_0.Methods k_1).bind fun x11 => (Zo.f m_0 k_1).bind fun t20 => (ZI.f x11.Code).bind fun t23 => (Yg.f t20.1).bind fun t26 => some (.inl (.l1 x11 t23 t20.1 0 0 (IntKind.i64.wrap ((IntKind.i64.wrap ((x11.Args.length : Int) + (x11.Locals.length : Int))) + t26)) 0))
  | .l1 x11 t23 l148 x150 x151 x152 x153 => if x150 < (x11.Code.length : Int) then ((elt x11.Code x150).bind fun x157 => (elt t23.1 x150).bind fun x162 => if x157.Op = 22 then ((elt t23.1 x150).bind fun x166 => ZW.j2 m_0 k_1 Xf x11 t23 l148 x150 x151 x152 x157 x162 (IntKind.i64.wrap (x153 + (IntKind.i64.wrap (x166 * x157.A))))) else (ZW.j2 m_0 k_1 Xf x11 t23 l148 x150 x151 x152 x157 x162 x153)) else (some (.inr (⟨x151, x152, x153⟩ : Zq)))
def ZW.f (m_0 : Z9) (k_1 : Int) (Xf : List Zq) : Option Zq := runF (ZW.F m_0 k_1 Xf) .start
theorem ZW.ok {m_0 k_1 Xf Z4 Z6 Z0 Wx} (r) (H : ZW.f m_0 k_1 Xf = some r) : Ok Tryz.prog 107 [.agg #[Z4, Z6, Z0, .int .i64 m_0.Zd], .int .i64 k_1, Wx] [slP Z5 Z4 m_0.Zj, slP Z5 Z6 m_0.Pool, slP Z8 Z0 m_0.Methods, slP Yh Wx Xf] fun v => HO.pure (v = .agg #[.int .i64 r.Fuel, .int .i64 r.Stack, .int .i64 r.Heap]) := by
 refine oq 145 Tryz.func107 fun w hV see pb => ?_
 obtain ⟨m0, o, ho, hr⟩ := rn H
 refine bx fun b5 => ?_
 refine al fun b7 => ?_
 refine ip 2 ho fun x11 ho p9 => ?_
 refine Z8.load see 0 rfl Tryz.underlying34 rfl sz34.h rfl rfl rfl (fun v12 v14 v16 => ?_)
 refine al (h := fun _ => id) fun b18 => ?_
 refine sp (h := id) 0 fun Z1E => ?_
 refine sp (h := id) 1 fun Z1F => ?_
 refine sp 2 fun Z0c => ?_
 refine st 0 ?_
 refine k1 Zo.ok ho fun t20 ho v21 => ?_
 refine k1 ZI.ok ho fun t23 ho v24 => ?_
 obtain ⟨t26, hc, ho⟩ := bind_some ho
 refine SP.callVO see (caps := []) (.int .i64 t26) fn171.h rfl rfl rfl rfl (fun w2 hs => Yg.ok _ hc w2 (hp w2) (Sub.refl _) (aS (slO.read (St.own 1 rfl see.sub see.dj hs) (Sub.refl _) (Sub.refl _)) (All.nil _))) ?_
 clear hc
 refine gg ?_
 refine bd [.int .i64 0, .int .i64 (IntKind.i64.wrap ((IntKind.i64.wrap ((x11.Args.length : Int) + (x11.Locals.length : Int))) + t26)), .int .i64 0] ?_
 refine al fun b27 => ?_
 refine st 0 ?_
 refine CP.W9 see 1 rfl ?_
 obtain rfl := Option.some.inj ho
 refine CP.loop (fun cl1 a w2 => ∃ l148 : List Zx, ∃ x150 : Int, ∃ x151 : Int, ∃ x152 : Int, ∃ x153 : Int, ∃ v149 : Value, cl1 ≤ m0 ∧ iter (ZW.F m_0 k_1 Xf) cl1 (.l1 x11 t23 l148 x150 x151 x152 x153) = some r ∧ Env ⟨145, []⟩ [(2, Wx), (3, .pointer (some ⟨b5, 0, none⟩)), (6, .pointer (some ⟨b7, 0, none⟩)), (7, .pointer (some ⟨b18, 0, none⟩)), (8, v149), (10, v24), (12, .int .i64 (IntKind.i64.wrap ((x11.Args.length : Int) + (x11.Locals.length : Int)))), (13, .pointer (some ⟨b27, 0, none⟩)), (14, .int .i64 x150)] a ∧ St w em hV [slP Y9 v149 l148, slP (kInt .i64) v24 t23.1, slP (kInt .u8) v12 x11.Args, slP (kInt .u8) v14 x11.Locals, slP Za v16 x11.Code, slP Z5 Z4 m_0.Zj, slP Z5 Z6 m_0.Pool, slP Z8 Z0 m_0.Methods, slP Yh Wx Xf] [boxO b27 [.int .i64 x151, .int .i64 x152, .int .i64 x153] 45, boxO b18 [v12, v14, .int .u8 x11.Result, .bool x11.Reads, .int .i64 x11.Fuel, .int .i64 x11.Stack, .int .i64 x11.Heap, v16] 34, boxO b7 [.int .i64 0, .int .i64 0, .int .i64 0] 45, boxO b5 [Z4, Z6, Z0, .int .i64 m_0.Zd] 25] w2) m0 (fun a w2 ha hw => ⟨t20.1, 0, 0, (IntKind.i64.wrap ((IntKind.i64.wrap ((x11.Args.length : Int) + (x11.Locals.length : Int))) + t26)), 0, v21, Nat.le_refl _, hr, ha.sub sb, (St.selP [0, 1, 2, 3, 4, 6, 7, 8, 9] rfl (St.W9 hw 1 rfl see))⟩) ?_
 clear hr
 rintro cl1 a w2 ⟨l148, x150, x151, x152, x153, v149, Z1D, hi, ha, hw⟩
 obtain ⟨m154, o, Zax, ho, hr⟩ := Ud hi
 refine CP.app ha hw ?_
 clear ha hw a w2 hi
 refine gg ?_
 refine ci (ht := id) ho (fun ho => ?_) fun ho => ?_
 ·refine go ?_
  refine ji hr (fun z => ∃ x206 x207 x208, z (ZW.j1 m_0 k_1 Xf x11 t23 l148 x150 x206 x207 x208) [(2, Wx), (3, .pointer (some ⟨b5, 0, none⟩)), (6, .pointer (some ⟨b7, 0, none⟩)), (7, .pointer (some ⟨b18, 0, none⟩)), (8, v149), (10, v24), (12, .int .i64 (IntKind.i64.wrap ((x11.Args.length : Int) + (x11.Locals.length : Int)))), (13, .pointer (some ⟨b27, 0, none⟩)), (14, .int .i64 x150)] [boxO b27 [.int .i64 x206, .int .i64 x207, .int .i64 x208] 45, boxO b18 [v12, v14, .int .u8 x11.Result, .bool x11.Reads, .int .i64 x11.Fuel, .int .i64 x11.Stack, .int .i64 x11.Heap, v16] 34, boxO b7 [.int .i64 0, .int .i64 0, .int .i64 0] 45, boxO b5 [Z4, Z6, Z0, .int .i64 m_0.Zd] 25]) ?_ ?_ (hb := pe [slP Y9 v149 l148, slP (kInt .i64) v24 t23.1, slP (kInt .u8) v12 x11.Args, slP (kInt .u8) v14 x11.Locals, slP Za v16 x11.Code, slP Z5 Z4 m_0.Zj, slP Z5 Z6 m_0.Pool, slP Z8 Z0 m_0.Methods, slP Yh Wx Xf])
  ·rintro _ _ ⟨x206, x207, x208, m209, o, _, ho, hr, h⟩
   refine en h ?_
   obtain rfl := Option.some.inj ho
   exact QE.lower m209 (by omega) fun a w2 ha hw => ⟨l148, (IntKind.i64.wrap (x150 + 1)), x206, x207, x208, v149, (by omega), hr, ha.sub sb, hw⟩
  refine gg ?_
  refine ip 4 ho fun x157 ho p155 => ?_
  refine ld 0 ?_
  refine al fun b158 => ?_
  refine st 0 ?_
  refine dr ?_
  refine ge 2 ho fun x162 ho p160 Z97 => ?_
  refine gu 0 ?_
  refine DA.ph 0 6 ?_
  refine DT.tk 0 ?_
  refine DT.tk 1 ?_
  refine DT.tk 2 ?_
  refine DT.tk 3 ?_
  refine DT.tv 4 rfl (Val.ie rfl rfl Z97) ?_
  refine tk 5 ?_
  refine dn ?_
  refine d1 6 ?_
  refine d1 7 ?_
  refine d1 8 ?_
  refine st 1 ?_
  refine dz (h := id) ?_
  refine go ?_
  refine ji hr (fun z => ∃ x168, z (ZW.j2 m_0 k_1 Xf x11 t23 l148 x150 x151 x152 x157 x162 x168) [(2, Wx), (3, .pointer (some ⟨b5, 0, none⟩)), (6, .pointer (some ⟨b7, 0, none⟩)), (7, .pointer (some ⟨b18, 0, none⟩)), (8, v149), (10, v24), (12, .int .i64 (IntKind.i64.wrap ((x11.Args.length : Int) + (x11.Locals.length : Int)))), (13, .pointer (some ⟨b27, 0, none⟩)), (14, .int .i64 x150), (15, .pointer (some ⟨b158, 0, none⟩))] [boxO b158 [.int .u8 x157.Op, .int .i64 x157.A, .int .i64 x157.B] 43, boxO b27 [.int .i64 (IntKind.i64.wrap (x151 + x162)), .int .i64 x152, .int .i64 x168] 45, boxO b18 [v12, v14, .int .u8 x11.Result, .bool x11.Reads, .int .i64 x11.Fuel, .int .i64 x11.Stack, .int .i64 x11.Heap, v16] 34, boxO b7 [.int .i64 0, .int .i64 0, .int .i64 0] 45, boxO b5 [Z4, Z6, Z0, .int .i64 m_0.Zd] 25]) ?_ ?_ (hb := pe [slP Y9 v149 l148, slP (kInt .i64) v24 t23.1, slP (kInt .u8) v12 x11.Args, slP (kInt .u8) v14 x11.Locals, slP Za v16 x11.Code, slP Z5 Z4 m_0.Zj, slP Z5 Z6 m_0.Pool, slP Z8 Z0 m_0.Methods, slP Yh Wx Xf])
  ·rintro _ _ ⟨x168, m169, o, _, ho, hr, h⟩
   refine en h ?_
   refine ci ho (fun ho => ?_) fun ho => ?_
   ·exact mi ho hr (fun _ z => ⟨(IntKind.i64.wrap (x151 + x162)), x152, x168, z⟩) (sO [1, 2, 3, 4])
   refine ip 8 ho fun x172 ho p170 => ?_
   refine ld 0 ?_
   refine al fun b173 => ?_
   refine st 0 ?_
   refine dr ?_
   refine ge 2 ho fun x177 ho p175 Z98 => ?_
   refine gu 0 ?_
   refine DA.ph 0 9 ?_
   refine DT.tk 0 ?_
   refine DT.tk 1 ?_
   refine DT.tk 2 ?_
   refine DT.tk 3 ?_
   refine DT.tv 4 rfl (Val.ie rfl rfl Z98) ?_
   refine tk 5 ?_
   refine DT.tk 6 ?_
   refine DT.tk 7 ?_
   refine DT.tk 8 ?_
   refine dn ?_
   refine d1 9 ?_
   refine d1 10 ?_
   refine d1 11 ?_
   refine st 2 ?_
   refine dz ?_
   refine dr ?_
   refine ge 4 ho fun x181 ho p179 Z99 => ?_
   refine gu 0 ?_
   refine DA.ph 0 9 ?_
   refine DT.tk 0 ?_
   refine DT.tk 1 ?_
   refine DT.tk 2 ?_
   refine DT.tk 3 ?_
   refine DT.tv 4 rfl (Val.ie rfl rfl Z99) ?_
   refine tk 5 ?_
   refine DT.tk 6 ?_
   refine DT.tk 7 ?_
   refine DT.tk 8 ?_
   refine dn ?_
   refine d1 9 ?_
   refine d1 10 ?_
   refine d1 11 ?_
   refine st 2 ?_
   refine dz ?_
   refine dr ?_
   refine ge 5 ho fun x185 ho p183 Z9a => ?_
   refine DA.ghost (fun w2 h => h.fieldE see 0 rfl Y9.JJ) (fun p186 Z9b => ?_)
   refine DA.ghost (fun w2 h => h.openE see 0 rfl (fun (v188 : Value) => [v188]) (fun (v188 : Value) => [slP (kInt .u8) v188 x185.Kinds]) (fun h cs ⟨v188, e, p0⟩ => ⟨v188, e, All.cons p0 (All.nil _)⟩)) (fun z_ _ => ?_)
   rename Value => v188
   refine ge 16 ho fun x193 ho p191 Z9c => ?_
   refine DA.ghost (fun w2 h => h.fieldE see 0 rfl Z8.Z08) (fun p194 Z9d => ?_)
   refine DA.ghost (fun w2 h => h.openE see 0 rfl (fun (v196 : Value) => [v196]) (fun (v196 : Value) => [slP (kInt .u8) v196 x193.Args]) (fun h cs ⟨v196, e, p0⟩ => ⟨v196, e, All.cons p0 (All.nil _)⟩)) (fun z_ _ => ?_)
   rename Value => v196
   refine DA.ph 0 19 ?_
   refine DT.tk 0 ?_
   refine DT.tk 1 ?_
   refine DT.tk 2 ?_
   refine DT.tv 3 rfl (Val.ie rfl rfl Z9a) ?_
   refine DT.tv 4 rfl (Val.fe rfl Z9b) ?_
   refine tk 5 ?_
   refine DT.tk 6 ?_
   refine DT.tk 7 ?_
   refine DT.tk 8 ?_
   refine DT.tk 9 ?_
   refine DT.tk 10 ?_
   refine DT.tk 11 ?_
   refine DT.tv 12 rfl (Val.ie rfl rfl Z9c) ?_
   refine DT.tv 13 rfl (Val.fe rfl Z9d) ?_
   refine tk 14 ?_
   refine DT.tk 15 ?_
   refine DT.tk 16 ?_
   refine DT.tk 17 ?_
   refine DT.tk 18 ?_
   refine dn ?_
   refine d1 19 ?_
   refine d1 20 ?_
   refine dz ?_
   refine ip 13 ho fun x201 ho p199 => ?_
   refine SP.fieldP see 0 rfl Tryz.underlying155 rfl sz4.h Y9.Z3o rfl rfl rfl (fun p202 => ?_)
   refine SP.val (Val.loadP1 see 0 rfl (fun _ _ e => e) Tryz.underlying4 rfl rfl) rfl rfl rfl (gg ?_)
   refine SP.jn 5 [2, 3, 6, 7, 8, 10, 12, 13, 14, 17] 141 (.bool (x201.Reached && (decide ((IntKind.i64.wrap ((IntKind.i64.wrap ((IntKind.i64.wrap ((IntKind.i64.wrap ((x11.Args.length : Int) + (x11.Locals.length : Int))) + (x185.Kinds.length : Int))) - (x193.Args.length : Int))) + x172.Stack)) > x152)))) ?_ ?_
   ·refine gg ?_
    refine cb ho (fun ho => ?_) fun ho => ?_
    ·refine st 2 ?_
     exact mi ho hr (fun _ z => ⟨(IntKind.i64.wrap ((IntKind.i64.wrap (x151 + x162)) + (IntKind.i64.wrap (x177 * x172.Fuel)))), (IntKind.i64.wrap ((IntKind.i64.wrap ((IntKind.i64.wrap ((IntKind.i64.wrap ((x11.Args.length : Int) + (x11.Locals.length : Int))) + (x185.Kinds.length : Int))) - (x193.Args.length : Int))) + x172.Stack)), (IntKind.i64.wrap (x168 + (IntKind.i64.wrap (x181 * x172.Heap)))), z⟩) (sO [2, 3, 4, 5])
    exact mi ho hr (fun _ z => ⟨(IntKind.i64.wrap ((IntKind.i64.wrap (x151 + x162)) + (IntKind.i64.wrap (x177 * x172.Fuel)))), x152, (IntKind.i64.wrap (x168 + (IntKind.i64.wrap (x181 * x172.Heap)))), z⟩) (sO [2, 3, 4, 5])
   refine bb 136 (fun hq205 => ?_) fun hq205 => ?_
   ·exact jb (XT hq205 rfl)
   exact jb (XU hq205)
  refine gg ?_
  refine ci ho (fun ho => ?_) fun ho => ?_
  ·refine dr ?_
   refine ge 4 ho fun x166 ho p164 Z3w => ?_
   refine gu 0 ?_
   refine DA.ph 0 9 ?_
   refine DT.tk 0 ?_
   refine DT.tk 1 ?_
   refine DT.tk 2 ?_
   refine DT.tk 3 ?_
   refine DT.tv 4 rfl (Val.ie rfl rfl Z3w) ?_
   refine tk 5 ?_
   refine DT.tk 6 ?_
   refine DT.tk 7 ?_
   refine DT.tk 8 ?_
   refine dn ?_
   refine d1 9 ?_
   refine d1 10 ?_
   refine d1 11 ?_
   refine st 1 ?_
   refine dz ?_
   exact mi ho hr (fun _ z => ⟨(IntKind.i64.wrap (x153 + (IntKind.i64.wrap (x166 * x157.A)))), z⟩)
  exact mi ho hr (fun _ z => ⟨x153, z⟩)
 refine st 2 ?_
 exact fin ho hr ▸ rt (rs := [.cell 6 45]) (vs := [.agg #[.int .i64 x151, .int .i64 x152, .int .i64 x153]]) (hv := ⟨RVs.cellA 2 rfl rfl Tryz.underlying45 rfl sz45.h, trivial⟩)
def Vv.f (c_0 : Zq) (x_1 : Zb) : Option Bool :=
  if (((decide (c_0.Fuel < 0)) || (decide (c_0.Stack < 0))) || (decide (c_0.Heap < 0))) = true then (some false) else (if (((decide (c_0.Fuel > 1048576)) || (decide (c_0.Stack > 256))) || (decide (c_0.Heap > 1024))) = true then (some false) else (some (((decide (c_0.Fuel ≤ x_1.Fuel)) && (decide (c_0.Stack ≤ x_1.Stack))) && (decide (c_0.Heap ≤ x_1.Heap)))))
theorem Vv.ok {c_0 x_1 Va WA Vb} (r) (ho : Vv.f c_0 x_1 = some r) : Ok Tryz.prog 108 [.agg #[.int .i64 c_0.Fuel, .int .i64 c_0.Stack, .int .i64 c_0.Heap], .agg #[Va, WA, .int .u8 x_1.Result, .bool x_1.Reads, .int .i64 x_1.Fuel, .int .i64 x_1.Stack, .int .i64 x_1.Heap, Vb]] [slP (kInt .u8) Va x_1.Args, slP (kInt .u8) WA x_1.Locals, slP Za Vb x_1.Code] fun v => HO.pure (v = .bool r) := by
 refine oq 50 Tryz.func108 fun w hV see pb => ?_
 refine bx fun b4 => ?_
 refine bx fun b6 => ?_
 refine SP.jn 4 [2, 3] 12 (.bool ((decide (c_0.Fuel < 0)) || (decide (c_0.Stack < 0)))) ?_ ?_
 ·refine gg ?_
  refine SP.jn 4 [2, 3] 17 (.bool (((decide (c_0.Fuel < 0)) || (decide (c_0.Stack < 0))) || (decide (c_0.Heap < 0)))) ?_ ?_
  ·refine gg ?_
   refine cb ho (fun ho => ?_) fun ho => ?_
   ·exact Option.some.inj ho ▸ rt
   refine SP.jn 4 [2, 3] 25 (.bool ((decide (c_0.Fuel > 1048576)) || (decide (c_0.Stack > 256)))) ?_ ?_
   ·refine gg ?_
    refine SP.jn 4 [2, 3] 30 (.bool (((decide (c_0.Fuel > 1048576)) || (decide (c_0.Stack > 256))) || (decide (c_0.Heap > 1024)))) ?_ ?_
    ·refine gg ?_
     refine cb ho (fun ho => ?_) fun ho => ?_
     ·exact Option.some.inj ho ▸ rt
     refine SP.jn 6 [2, 3] 42 (.bool ((decide (c_0.Fuel ≤ x_1.Fuel)) && (decide (c_0.Stack ≤ x_1.Stack)))) ?_ ?_
     ·refine gg ?_
      refine SP.jn 6 [] 49 (.bool (((decide (c_0.Fuel ≤ x_1.Fuel)) && (decide (c_0.Stack ≤ x_1.Stack))) && (decide (c_0.Heap ≤ x_1.Heap)))) ?_ ?_
      ·refine gg ?_
       exact Option.some.inj ho ▸ rt
      refine bb 43 (fun hq19 => ?_) fun hq19 => ?_
      ·exact jb (XT hq19 rfl)
      exact jb (XU hq19)
     refine bb 36 (fun hq17 => ?_) fun hq17 => ?_
     ·exact jb (XT hq17 rfl)
     exact jb (XU hq17)
    refine bb 26 (fun hq15 => ?_) fun hq15 => ?_
    ·exact jb (WL hq15)
    exact jb (WM hq15 rfl)
   refine bb 21 (fun hq13 => ?_) fun hq13 => ?_
   ·exact jb (WL hq13)
   exact jb (WM hq13 rfl)
  refine bb 13 (fun hq11 => ?_) fun hq11 => ?_
  ·exact jb (WL hq11)
  exact jb (WM hq11 rfl)
 refine bb 8 (fun hq9 => ?_) fun hq9 => ?_
 ·exact jb (WL hq9)
 exact jb (WM hq9 rfl)
inductive Y6.S where
  | start
  | l1 (t6 : (List Int) × Int) (x63 : Int)
  | l2 (t6 : (List Int) × Int) (l91 : List Zq) (x93 : Int)
def Y6.F (m_0 : Z9) : Y6.S → Option (Y6.S ⊕ ((List Zq) × Int))
  | .start => (Zu.f m_0).bind fun t6 => if t6.2 ≠ 0 then (some (.inr ([], t6.2))) else (some (.inl (.l1 t6 0)))
  | .l1 t6 x63 => if x63 < (m_0.Methods.length : Int) then ((Zo.f m_0 x63).bind fun t65 => if t65.2 ≠ 0 then (some (.inr ([], t65.2))) else (some (.inl (.l1 t6 (IntKind.i64.wrap (x63 + 1)))))) else (if (0 : Int) ≤ (t6.1.length : Int) ∧ (24 : Int) * (t6.1.length : Int) ≤ 281474976710656 ∧ ((t6.1.length : Int) : Int) ≤ 9223372036854775807 then (some (.inl (.l2 t6 (List.replicate ((t6.1.length : Int) : Int).toNat Zq.zero : List Zq) 0))) else none)
  | .l2 t6 l91 x93 => if x93 < (t6.1.length : Int) then ((elt t6.1 x93).bind fun x96 => (ZW.f m_0 x96 l91).bind fun t97 => (elt l91 x96).bind fun x99 => (elt (l91.set x96.toNat t97) x96).bind fun x101 => (elt m_0.Methods x96).bind fun x104 => (Vv.f x101 x104).bind fun t112 => if (!t112) = true then (some (.inr ([], 120))) else (some (.inl (.l2 t6 (l91.set x96.toNat t97) (IntKind.i64.wrap (x93 + 1)))))) else (some (.inr (l91, 0)))
def Y6.f (m_0 : Z9) : Option ((List Zq) × Int) := runF (Y6.F m_0) .start
theorem Y6.ok {m_0 Z4 Z6 Z0} (r) (H : Y6.f m_0 = some r) : Ok Tryz.prog 54 [.agg #[Z4, Z6, Z0, .int .i64 m_0.Zd]] [slP Z5 Z4 m_0.Zj, slP Z5 Z6 m_0.Pool, slP Z8 Z0 m_0.Methods] fun v => HO.ex fun u0 : Value => HO.pand (v = .tuple #[u0, .int .i64 r.2]) (HO.seps [slO Yh 45 u0 r.1]) := by
 refine oq 68 Tryz.func54 fun w hV see pb => ?_
 obtain ⟨m0, o, ho, hr⟩ := rn H
 refine bx fun b4 => ?_
 refine k1 Zu.ok ho fun t6 ho v7 => ?_
 refine ci ho (fun ho => ?_) fun ho => ?_
 ·exact fin ho hr ▸ rt (fun _ h => St.selO [0] rfl rfl (St.addO (slO.nil Yh 45) h))
 refine lo ho hr (fun z => ∃ x63, z (.l1 t6 x63) [(1, .pointer (some ⟨b4, 0, none⟩)), (4, v7), (6, .int .i64 x63)] [slO (kInt .i64) 3 v7 t6.1, boxO b4 [Z4, Z6, Z0, .int .i64 m_0.Zd] 25]) (fun _ z => ⟨0, z⟩) ?_
 rintro _ _ _ ⟨x63, m64, o, _, _, ho, hr, h⟩
 refine en h ?_
 refine ci ho (fun ho => ?_) fun ho => ?_
 ·refine k1 Zo.ok ho fun t65 ho v66 => ?_
  refine ci ho (fun ho => ?_) fun ho => ?_
  ·exact fin ho hr ▸ rt (fun _ h => St.selO [0] rfl rfl (St.addO (slO.nil Yh 45) h))
  exact lw ho hr (fun _ z => ⟨(IntKind.i64.wrap (x63 + 1)), z⟩) (sO [1, 2])
 obtain ⟨hb, ho⟩ := X6 ho
 refine SP.makeS (k := Yh) (z := Zq.zero) Tryz.underlying37 inf45.h rfl rfl (fun _ => rfl) rfl rfl rfl rfl hb (fun v69 => ?_)
 clear hb
 refine gg ?_
 refine lo ho hr (fun z => ∃ l91 x93 v92, z (.l2 t6 l91 x93) [(1, .pointer (some ⟨b4, 0, none⟩)), (4, v7), (9, v92), (10, .int .i64 x93)] [slO Yh 45 v92 l91, slO (kInt .i64) 3 v7 t6.1, boxO b4 [Z4, Z6, Z0, .int .i64 m_0.Zd] 25]) (fun _ z => ⟨(List.replicate ((t6.1.length : Int) : Int).toNat Zq.zero : List Zq), 0, v69, z⟩) ?_
 rintro _ _ _ ⟨l91, x93, v92, m94, o, _, _, ho, hr, h⟩
 refine en h ?_
 refine ci ho (fun ho => ?_) fun ho => ?_
 ·obtain ⟨x96, Z3x, ho⟩ := YG ho
  refine SP.indexW (fun w2 hw => slO.whole (St.own 1 rfl see.sub see.dj hw)) Tryz.underlying48 sz3.h Z3x.1 Z3x.2 rfl rfl rfl rfl (fun p95 Z5a => ?_)
  refine SP.val (Val.loadW1 (off := 0) (k := (kInt .i64)) (fun w2 hw => slO.whole (St.own 1 rfl see.sub see.dj hw)) Z3x.2 Z5a (fun _ _ e => by subst e; rfl) Tryz.underlying3 rfl rfl) rfl rfl rfl (gg ?_)
  obtain ⟨t97, hc, ho⟩ := bind_some ho
  refine SP.callVO see (caps := []) (.agg #[.int .i64 t97.Fuel, .int .i64 t97.Stack, .int .i64 t97.Heap]) fn107.h rfl rfl rfl rfl (fun w2 hs => ZW.ok _ hc w2 (hp w2) (Sub.refl _) (aS ((St.pers 0 rfl see.sub see.dj hs)) (aS ((St.pers 1 rfl see.sub see.dj hs)) (aS ((St.pers 2 rfl see.sub see.dj hs)) (aS (slO.read (St.own 0 rfl see.sub see.dj hs) (Sub.refl _) (Sub.refl _)) (All.nil _)))))) ?_
  clear hc
  obtain ⟨x99, Z3y, ho⟩ := YG ho
  refine SP.indexW (fun w2 hw => slO.whole (St.own 0 rfl see.sub see.dj hw)) Tryz.underlying37 sz45.h Z3y.1 Z3y.2 rfl rfl rfl rfl (fun p98 Z5c => ?_)
  refine SP.storeO (z0 := t97) (off := 0) (vs := [.int .i64 t97.Fuel, .int .i64 t97.Stack, .int .i64 t97.Heap]) see 0 rfl Z3y.2 Z5c rfl rfl sz45.h rfl (fun a cs _ e => by subst e; rfl) rfl rfl rfl (gg ?_)
  refine dr ?_
  obtain ⟨x101, Z2l, ho⟩ := YG ho
  refine DA.ghost (fun w2 hw => let ⟨z, hz⟩ := ixC ((fun w2 hw => slO.whole (St.own 0 rfl see.sub see.dj hw)) w2 hw) Z2l.1 Z2l.2; ⟨z, hz, hw⟩) (fun p100 Z5G => ?_)
  have Z3z := Z5G.1
  refine ge 2 ho fun x104 ho p102 Z9e => ?_
  refine DA.ghost (fun w2 h => h.openE see 0 rfl (fun ((v105, v107, v109) : Value × Value × Value) => [v105, v107, .int .u8 x104.Result, .bool x104.Reads, .int .i64 x104.Fuel, .int .i64 x104.Stack, .int .i64 x104.Heap, v109]) (fun ((v105, v107, v109) : Value × Value × Value) => [slP (kInt .u8) v105 x104.Args, slP (kInt .u8) v107 x104.Locals, slP Za v109 x104.Code]) (fun h cs ⟨v105, v107, v109, e, p0, p1, p2⟩ => ⟨(v105, v107, v109), e, All.cons p0 (All.cons p1 (All.cons p2 (All.nil _)))⟩)) (fun z_ _ => ?_)
  obtain ⟨v105, v107, v109⟩ := z_
  refine DA.ph 0 9 ?_
  refine DT.tk 0 ?_
  refine DT.tk 1 ?_
  refine DT.tv 2 rfl (Val.Z0K Z5G Tryz.underlying37 sz45.h rfl rfl) ?_
  refine DT.tv 3 rfl (Val.loadOA see 0 rfl Z2l.2 Z3z (fun _ _ e => e) Tryz.underlying45 rfl sz45.h rfl) ?_
  refine DT.tk 4 ?_
  refine DT.tk 5 ?_
  refine DT.tk 6 ?_
  refine DT.tv 7 rfl (Val.ie rfl rfl Z9e) ?_
  refine tk 8 ?_
  refine dn ?_
  refine d1 9 ?_
  refine kv Vv.ok ho fun t112 ho => ?_
  refine d1 10 ?_
  refine dz ?_
  refine cb ho (fun ho => ?_) fun ho => ?_
  ·exact fin ho hr ▸ rt (fun _ h => St.selO [0] rfl rfl (St.addO (slO.nil Yh 45) h))
  exact lw ho hr (fun _ z => ⟨(l91.set x96.toNat t97), (IntKind.i64.wrap (x93 + 1)), v92, z⟩)
 exact fin ho hr ▸ rt (sO [0])
inductive YO.S where
  | start
  | l1 (x28 : Int)
def YO.F (m_0 : Z9) (k_1 : Int) : YO.S → Option (YO.S ⊕ (Bool × Int))
  | .start => if ((decide (k_1 < 0)) || (decide (k_1 ≥ (m_0.Methods.length : Int)))) = true then (some (.inr (false, 2))) else (some (.inl (.l1 0)))
  | .l1 x28 => (elt m_0.Methods k_1).bind fun x32 => if x28 < (x32.Code.length : Int) then ((elt m_0.Methods k_1).bind fun x39 => (elt x39.Code x28).bind fun x46 => if x46.Op = 5 then (some (.inr (true, 0))) else (some (.inl (.l1 (IntKind.i64.wrap (x28 + 1)))))) else (some (.inr (false, 0)))
def YO.f (m_0 : Z9) (k_1 : Int) : Option (Bool × Int) := runF (YO.F m_0 k_1) .start
theorem YO.ok {m_0 k_1 Z4 Z6 Z0} (r) (H : YO.f m_0 k_1 = some r) : Ok Tryz.prog 109 [.agg #[Z4, Z6, Z0, .int .i64 m_0.Zd], .int .i64 k_1] [slP Z5 Z4 m_0.Zj, slP Z5 Z6 m_0.Pool, slP Z8 Z0 m_0.Methods] fun v => HO.pure (v = .tuple #[.bool r.1, .int .i64 r.2]) := by
 refine oq 38 Tryz.func109 fun w hV see pb => ?_
 obtain ⟨m0, o, ho, hr⟩ := rn H
 refine bx fun b4 => ?_
 refine SP.jn 6 [1, 2] 15 (.bool ((decide (k_1 < 0)) || (decide (k_1 ≥ (m_0.Methods.length : Int))))) ?_ ?_
 ·refine gg ?_
  refine cb ho (fun ho => ?_) fun ho => ?_
  ·exact fin ho hr ▸ rt
  refine lo ho hr (fun z => ∃ x28, z (.l1 x28) [(1, .int .i64 k_1), (2, .pointer (some ⟨b4, 0, none⟩)), (6, .int .i64 x28)] [boxO b4 [Z4, Z6, Z0, .int .i64 m_0.Zd] 25]) (fun _ z => ⟨0, z⟩) ?_
  rintro _ _ _ ⟨x28, m29, o, _, _, ho, hr, h⟩
  refine en h ?_
  refine ip 2 ho fun x32 ho p30 => ?_
  refine SP.fieldP see 0 rfl Tryz.underlying34 rfl sz32.h Z8.Td rfl rfl rfl (fun p33 => ?_)
  refine SP.loadPS see 0 rfl Tryz.underlying32 rfl rfl rfl (fun v35 => gg ?_)
  refine ci ho (fun ho => ?_) fun ho => ?_
  ·refine ip 5 ho fun x39 ho p37 => ?_
   refine SP.fieldP see 0 rfl Tryz.underlying34 rfl sz32.h Z8.Td rfl rfl rfl (fun p40 => ?_)
   refine SP.loadPS see 0 rfl Tryz.underlying32 rfl rfl rfl (fun v42 => gg ?_)
   refine ip 0 ho fun x46 ho p44 => ?_
   refine SP.fieldP see 0 rfl Tryz.underlying43 rfl sz5.h Za.U1 rfl rfl rfl (fun p47 => ?_)
   refine SP.val (Val.loadP1 see 0 rfl (fun _ _ e => e) Tryz.underlying5 rfl rfl) rfl rfl rfl (gg ?_)
   refine ci ho (fun ho => ?_) fun ho => ?_
   ·exact fin ho hr ▸ rt
   exact lw ho hr (fun _ z => ⟨(IntKind.i64.wrap (x28 + 1)), z⟩)
  exact fin ho hr ▸ rt
 refine bb 9 (fun hq7 => ?_) fun hq7 => ?_
 ·exact jb (WL hq7)
 exact jb (WM hq7 rfl)
inductive Zz.S where
  | start
  | l1 (x126 : Int)
  | l2 (x188 : Int)
  | l3 (x188 : Int) (t196 : (List Int) × Int) (b227 : Bool) (x228 : Int)
def Zz.j1 (m_0 : Z9) (x188 : Int) : Option (Zz.S ⊕ Int) :=
  some (.inl (.l2 (IntKind.i64.wrap (x188 + 1))))
def Zz.j2 (m_0 : Z9) (x188 : Int) (t196 : (List Int) × Int) (x228 : Int) (b241 : Bool) : Option (Zz.S ⊕ Int) :=
  some (.inl (.l3 x188 t196 b241 (IntKind.i64.wrap (x228 + 1))))
def Zz.F (m_0 : Z9) : Zz.S → Option (Zz.S ⊕ Int)
  | .start => some (.inl (.l1 0))
  | .l1 x126 => if x126 < (m_0.Methods.length : Int) then ((Zt.f m_0 x126).bind fun t128 => if t128.2 ≠ 0 then (some (.inr t128.2)) else (some (.inl (.l1 (IntKind.i64.wrap (x126 + 1)))))) else (some (.inl (.l2 0)))
  | .l2 x188 => if x188 < (m_0.Methods.length : Int) then ((elt m_0.Methods x188).bind fun x192 => if (!x192.Reads) = true then (Zz.j1 m_0 x188) else ((YO.f m_0 x188).bind fun t195 => (Zt.f m_0 x188).bind fun t196 => some (.inl (.l3 x188 t196 t195.1 0)))) else (some (.inr 0))
  | .l3 x188 t196 b227 x228 => if x228 < (t196.1.length : Int) then (if b227 = true then (Zz.j2 m_0 x188 t196 x228 true) else ((elt t196.1 x228).bind fun x234 => (elt m_0.Methods x234).bind fun x238 => Zz.j2 m_0 x188 t196 x228 (!x238.Reads))) else (if b227 = true then (some (.inr 130)) else (Zz.j1 m_0 x188))
def Zz.f (m_0 : Z9) : Option Int := runF (Zz.F m_0) .start
theorem Zz.ok {m_0 Z4 Z6 Z0} (r) (H : Zz.f m_0 = some r) : Ok Tryz.prog 55 [.agg #[Z4, Z6, Z0, .int .i64 m_0.Zd]] [slP Z5 Z4 m_0.Zj, slP Z5 Z6 m_0.Pool, slP Z8 Z0 m_0.Methods] fun v => HO.pure (v = .int .i64 r) := by
 refine oq 74 Tryz.func55 fun w hV see pb => ?_
 obtain ⟨m0, o, ho, hr⟩ := rn H
 refine bx fun b4 => ?_
 refine lo ho hr (fun z => ∃ x126, z (.l1 x126) [(1, .pointer (some ⟨b4, 0, none⟩)), (3, .int .i64 x126)] [boxO b4 [Z4, Z6, Z0, .int .i64 m_0.Zd] 25]) (fun _ z => ⟨0, z⟩) ?_
 rintro _ _ _ ⟨x126, m127, o, _, _, ho, hr, h⟩
 refine en h ?_
 refine ci ho (fun ho => ?_) fun ho => ?_
 ·refine k1 Zt.ok ho fun t128 ho v129 => ?_
  refine ci ho (fun ho => ?_) fun ho => ?_
  ·exact fin ho hr ▸ rt
  exact lw ho hr (fun _ z => ⟨(IntKind.i64.wrap (x126 + 1)), z⟩) (sO [1])
 refine lo ho hr (fun z => ∃ x188, z (.l2 x188) [(1, .pointer (some ⟨b4, 0, none⟩)), (6, .int .i64 x188)] [boxO b4 [Z4, Z6, Z0, .int .i64 m_0.Zd] 25]) (fun _ z => ⟨0, z⟩) ?_
 rintro _ _ _ ⟨x188, m189, o, _, _, ho, hr, h⟩
 refine en h ?_
 refine ci (ht := id) ho (fun ho => ?_) fun ho => ?_
 ·refine go ?_
  refine ji hr (fun z => z (Zz.j1 m_0 x188) [(1, .pointer (some ⟨b4, 0, none⟩)), (6, .int .i64 x188)] [boxO b4 [Z4, Z6, Z0, .int .i64 m_0.Zd] 25]) ?_ ?_
  ·rintro _ _ ⟨m245, o, _, ho, hr, h⟩
   refine en h ?_
   exact lw ho hr (fun _ z => ⟨(IntKind.i64.wrap (x188 + 1)), z⟩)
  refine gg ?_
  refine ip 2 ho fun x192 ho p190 => ?_
  refine SP.fieldP see 0 rfl Tryz.underlying34 rfl sz4.h Z8.JI rfl rfl rfl (fun p193 => ?_)
  refine SP.val (Val.loadP1 see 0 rfl (fun _ _ e => e) Tryz.underlying4 rfl rfl) rfl rfl rfl (gg ?_)
  refine cb ho (fun ho => ?_) fun ho => ?_
  ·exact mi ho hr (fun _ z => z)
  refine kv YO.ok ho fun t195 ho => ?_
  refine k1 Zt.ok ho fun t196 ho v197 => ?_
  refine CP.W9 see 0 rfl ?_
  refine lo ho hr (fun z => ∃ b227 x228, z (.l3 x188 t196 b227 x228) [(1, .pointer (some ⟨b4, 0, none⟩)), (6, .int .i64 x188), (7, .bool b227), (9, v197), (11, .int .i64 x228)] [boxO b4 [Z4, Z6, Z0, .int .i64 m_0.Zd] 25]) (fun _ z => ⟨t195.1, 0, z⟩) ?_ (hb := pe [slP (kInt .i64) v197 t196.1, slP Z5 Z4 m_0.Zj, slP Z5 Z6 m_0.Pool, slP Z8 Z0 m_0.Methods])
  rintro _ _ _ ⟨b227, x228, m229, o, _, _, ho, hr, h⟩
  refine en h ?_
  refine ci (ht := id) ho (fun ho => ?_) fun ho => ?_
  ·refine go ?_
   refine ji hr (fun z => ∃ b241, z (Zz.j2 m_0 x188 t196 x228 b241) [(1, .pointer (some ⟨b4, 0, none⟩)), (6, .int .i64 x188), (7, .bool b241), (9, v197), (11, .int .i64 x228)] [boxO b4 [Z4, Z6, Z0, .int .i64 m_0.Zd] 25]) ?_ ?_ (hb := pe [slP (kInt .i64) v197 t196.1, slP Z5 Z4 m_0.Zj, slP Z5 Z6 m_0.Pool, slP Z8 Z0 m_0.Methods])
   ·rintro _ _ ⟨b241, m242, o, _, ho, hr, h⟩
    refine en h ?_
    exact lw ho hr (fun _ z => ⟨b241, (IntKind.i64.wrap (x228 + 1)), z⟩)
   refine gg ?_
   refine dr ?_
   refine d1 0 ?_
   refine d1 1 ?_
   rcases Ws ho with ⟨hc, ho⟩ | ⟨hc, ho⟩
   ·have hg230 := hc
    clear hc
    refine DA.ph 2 8 ?_
    refine DT.is (d := 61) (b := true) rfl hg230 ?_
    refine DT.tn 2 ?_
    refine DT.tn 3 ?_
    refine DT.tn 4 ?_
    refine DT.tn 5 ?_
    refine DT.tn 6 ?_
    refine DT.tn 7 ?_
    refine dn ?_
    refine DA.ph 8 9 ?_
    refine DT.tn 8 ?_
    refine dn ?_
    refine DA.ph 9 10 ?_
    refine DT.tn 9 ?_
    refine dn ?_
    refine DA.ph 10 11 ?_
    refine DT.tn 10 ?_
    refine dn ?_
    refine DA.ph 11 12 ?_
    refine DT.tn 11 ?_
    refine dn ?_
    refine d1 12 ?_
    refine d1 13 ?_
    refine dz ?_
    exact mi ho hr (fun _ z => ⟨true, z⟩)
   have hg231 := (bf hc)
   clear hc
   refine ge 0 ho fun x234 ho p232 Z9f => ?_
   refine gu 0 ?_
   refine DA.ph 2 8 ?_
   refine DT.is (d := 61) (b := false) rfl hg231 ?_
   refine DT.tk 2 ?_
   refine DT.tk 3 ?_
   refine DT.tk 4 ?_
   refine DT.tk 5 ?_
   refine DT.tv 6 rfl (Val.ie rfl rfl Z9f) ?_
   refine tk 7 ?_
   refine dn ?_
   refine d1 8 ?_
   refine ip 5 ho fun x238 ho p236 => ?_
   refine d1 9 ?_
   refine SP.fieldP see 0 rfl Tryz.underlying34 rfl sz4.h Z8.JI rfl rfl rfl (fun p239 => gg ?_)
   refine d1 10 ?_
   refine SP.val (Val.loadP1 see 0 rfl (fun _ _ e => e) Tryz.underlying4 rfl rfl) rfl rfl rfl (gg ?_)
   refine d1 11 ?_
   refine d1 12 ?_
   refine d1 13 ?_
   refine dz ?_
   exact mi ho hr (fun _ z => ⟨(!x238.Reads), z⟩)
  refine cb ho (fun ho => ?_) fun ho => ?_
  ·exact fin ho hr ▸ rt
  exact mi ho hr (fun _ z => z)
 exact fin ho hr ▸ rt
inductive YA.S where
  | start
  | l1 (x37 : Int)
def YA.F (m_0 : Z9) : YA.S → Option (YA.S ⊕ ((List Zq) × Int))
  | .start => (WV.f m_0).bind fun t6 => if t6 ≠ 0 then (some (.inr ([], t6))) else ((if m_0.Zd ≥ 0 then ((elt m_0.Methods m_0.Zd).bind fun x12 => (Yk.f x12).bind fun t19 => some (!t19)) else (some false)).bind fun t20 => if t20 = true then (some (.inr ([], 70))) else (some (.inl (.l1 0))))
  | .l1 x37 => if x37 < (m_0.Methods.length : Int) then ((Zo.f m_0 x37).bind fun t39 => if t39.2 ≠ 0 then (some (.inr ([], t39.2))) else (some (.inl (.l1 (IntKind.i64.wrap (x37 + 1)))))) else ((Zu.f m_0).bind fun t43 => if t43.2 ≠ 0 then (some (.inr ([], t43.2))) else ((Y6.f m_0).bind fun t47 => if t47.2 ≠ 0 then (some (.inr ([], t47.2))) else ((Zz.f m_0).bind fun t51 => if t51 ≠ 0 then (some (.inr ([], t51))) else (some (.inr (t47.1, 0))))))
def YA.f (m_0 : Z9) : Option ((List Zq) × Int) := runF (YA.F m_0) .start
theorem YA.ok {m_0 Z4 Z6 Z0} (r) (H : YA.f m_0 = some r) : Ok Tryz.prog 24 [.agg #[Z4, Z6, Z0, .int .i64 m_0.Zd]] [slP Z5 Z4 m_0.Zj, slP Z5 Z6 m_0.Pool, slP Z8 Z0 m_0.Methods] fun v => HO.ex fun u0 : Value => HO.pand (v = .tuple #[u0, .int .i64 r.2]) (HO.seps [slO Yh 45 u0 r.1]) := by
 refine oq 65 Tryz.func24 fun w hV see pb => ?_
 obtain ⟨m0, o, ho, hr⟩ := rn H
 refine bx fun b4 => ?_
 refine kv WV.ok ho fun t6 ho => ?_
 refine ci ho (fun ho => ?_) fun ho => ?_
 ·exact fin ho hr ▸ rt (fun _ h => St.selO [0] rfl rfl (St.addO (slO.nil Yh 45) h))
 obtain ⟨t20, Z5H, ho⟩ := bind_some ho
 refine SP.jn 9 [1] 26 (.bool t20) ?_ ?_
 ·clear Z5H
  refine gg ?_
  refine cb ho (fun ho => ?_) fun ho => ?_
  ·exact fin ho hr ▸ rt (fun _ h => St.selO [0] rfl rfl (St.addO (slO.nil Yh 45) h))
  refine lo ho hr (fun z => ∃ x37, z (.l1 x37) [(1, .pointer (some ⟨b4, 0, none⟩)), (5, .int .i64 x37)] [boxO b4 [Z4, Z6, Z0, .int .i64 m_0.Zd] 25]) (fun _ z => ⟨0, z⟩) ?_
  rintro _ _ _ ⟨x37, m38, o, _, _, ho, hr, h⟩
  refine en h ?_
  refine ci ho (fun ho => ?_) fun ho => ?_
  ·refine k1 Zo.ok ho fun t39 ho v40 => ?_
   refine ci ho (fun ho => ?_) fun ho => ?_
   ·exact fin ho hr ▸ rt (fun _ h => St.selO [0] rfl rfl (St.addO (slO.nil Yh 45) h))
   exact lw ho hr (fun _ z => ⟨(IntKind.i64.wrap (x37 + 1)), z⟩) (sO [1])
  refine k1 Zu.ok ho fun t43 ho v44 => ?_
  refine ci ho (fun ho => ?_) fun ho => ?_
  ·exact fin ho hr ▸ rt (fun _ h => St.selO [0] rfl rfl (St.addO (slO.nil Yh 45) h))
  refine k1 Y6.ok ho fun t47 ho v48 => ?_
  refine ci ho (fun ho => ?_) fun ho => ?_
  ·exact fin ho hr ▸ rt (fun _ h => St.selO [0] rfl rfl (St.addO (slO.nil Yh 45) h))
  refine kv Zz.ok ho fun t51 ho => ?_
  refine ci ho (fun ho => ?_) fun ho => ?_
  ·exact fin ho hr ▸ rt (fun _ h => St.selO [0] rfl rfl (St.addO (slO.nil Yh 45) h))
  exact fin ho hr ▸ rt (sO [0])
 refine bi 17 Z5H (fun hq9 ho => ?_) fun hq9 ho => ?_
 ·refine ip 2 ho fun x12 ho p10 => ?_
  refine Z8.load see 0 rfl Tryz.underlying34 rfl sz34.h rfl rfl rfl (fun v13 v15 v17 => ?_)
  refine kv Yk.ok ho fun t19 ho => ?_
  obtain rfl := Option.some.inj ho
  exact QE.jn fun w2 hw => (St.selP [4, 5, 6] rfl hw)
 obtain rfl := Option.some.inj ho
 exact jn
def U8.f  : Option Unit :=
  some ()
theorem U8.ok (r) (ho : U8.f  = some r) : Ok Tryz.prog 88 [] [] fun v => HO.pure (v = .agg #[.func (.func 10) #[] #[], .func (.func 142) #[] #[], .func (.func 143) #[] #[], .func (.func 14) #[] #[], .func (.func 15) #[] #[], .func (.func 16) #[] #[]]) := by
 refine oq 8 Tryz.func88 fun w hV see pb => ?_
 refine al fun b1 => ?_
 refine bd [.func (.func 10) #[] #[]] ?_
 refine bd [.func (.func 142) #[] #[]] ?_
 refine bd [.func (.func 143) #[] #[]] ?_
 refine bd [.func (.func 14) #[] #[]] ?_
 refine bd [.func (.func 15) #[] #[]] ?_
 refine bd [.func (.func 16) #[] #[]] ?_
 refine bd [.func (.func 10) #[] #[], .func (.func 142) #[] #[], .func (.func 143) #[] #[], .func (.func 14) #[] #[], .func (.func 15) #[] #[], .func (.func 16) #[] #[]] ?_
 refine st 0 ?_
 obtain rfl := Option.some.inj ho
 exact rt (rs := [.cell 0 133]) (vs := [.agg #[.func (.func 10) #[] #[], .func (.func 142) #[] #[], .func (.func 143) #[] #[], .func (.func 14) #[] #[], .func (.func 15) #[] #[], .func (.func 16) #[] #[]]]) (hv := ⟨RVs.cellA 0 rfl rfl Tryz.underlying133 rfl sz133.h, trivial⟩)
def KM.f (p_0 : Kc) : Option Bool :=
  if ((decide (p_0.e0 < (-1048576))) || (decide (p_0.e0 > 1048576))) = true then (some false) else (if ((decide (p_0.e1 < (-1048576))) || (decide (p_0.e1 > 1048576))) = true then (some false) else (some true))
theorem KM.ok {p_0} (r) (ho : KM.f p_0 = some r) : Ok Tryz.prog 250 [.agg #[.int .i64 p_0.e0, .int .i64 p_0.e1]] [] fun v => HO.pure (v = .bool r) := by
 refine oq 16 Tryz.func250 fun w hV see pb => ?_
 refine bx fun b1 => ?_
 refine CP.rounds 4 ?_
 refine LP.step ?_
 refine CP.seq ?_
 refine CP.region ?_
 refine cs (.bool true) ?_
 refine CP.condT rfl rfl (gg ?_)
 refine SP.val (Val.Z0L 0 Tryz.underlying314 Tryz.underlying2 rfl sz2.h rfl rfl rfl rfl) rfl rfl rfl (gg ?_)
 refine SP.jn 3 [5, 6] 14 (.bool ((decide (p_0.e0 < (-1048576))) || (decide (p_0.e0 > 1048576)))) ?_ ?_
 ·refine gg ?_
  refine cb (hf := id) ho (fun ho => ?_) fun ho => ?_
  ·exact Option.some.inj ho ▸ rt
  refine CP.skip ?_
  refine QE.blockN ?_
  refine QE.then ?_
  refine CP.region ?_
  refine cs (.int .i64 1) ?_
  refine QE.round ?_
  refine LP.step ?_
  refine CP.seq ?_
  refine CP.region ?_
  refine cs (.bool true) ?_
  refine CP.condT rfl rfl (gg ?_)
  refine SP.val (Val.Z0L 1 Tryz.underlying314 Tryz.underlying2 rfl sz2.h rfl rfl rfl rfl) rfl rfl rfl (gg ?_)
  refine SP.jn 3 [5, 6] 14 (.bool ((decide (p_0.e1 < (-1048576))) || (decide (p_0.e1 > 1048576)))) ?_ ?_
  ·refine gg ?_
   refine cb (hf := id) ho (fun ho => ?_) fun ho => ?_
   ·exact Option.some.inj ho ▸ rt
   refine CP.skip ?_
   refine QE.blockN ?_
   refine QE.then ?_
   refine CP.region ?_
   refine cs (.int .i64 2) ?_
   refine QE.round ?_
   refine LP.step ?_
   refine CP.seq ?_
   refine CP.region ?_
   refine cs (.bool false) ?_
   refine CP.condF rfl rfl (gg ?_)
   exact Option.some.inj ho ▸ rt
  refine bb 11 (fun hq6 => ?_) fun hq6 => ?_
  ·exact jb (WL hq6)
  exact jb (WM hq6 rfl)
 refine bb 11 (fun hq4 => ?_) fun hq4 => ?_
 ·exact jb (WL hq4)
 exact jb (WM hq4 rfl)
def Ke.f (a_0 b_1 : Int) : Option (Zn × Bool) :=
  (KM.f (⟨a_0, b_1⟩ : Kc)).bind fun t3 => if (!t3) = true then (some ((⟨0, 0, 0⟩ : Zn), false)) else (some ((⟨2, a_0, b_1⟩ : Zn), true))
theorem Ke.ok {a_0 b_1} (r) (ho : Ke.f a_0 b_1 = some r) : Ok Tryz.prog 221 [.int .i64 a_0, .int .i64 b_1] [] fun v => HO.pure (v = .tuple #[.agg #[.int .u8 r.1.Kind, .int .i64 r.1.A, .int .i64 r.1.B], .bool r.2]) := by
 refine oq 15 Tryz.func221 fun w hV see pb => ?_
 refine al fun b1 => ?_
 refine bd [.int .i64 a_0, .int .i64 b_1] ?_
 refine kv KM.ok ho fun t3 ho => ?_
 refine cb ho (fun ho => ?_) fun ho => ?_
 ·refine bd [.int .u8 0, .int .i64 0, .int .i64 0] ?_
  refine st 0 ?_
  exact Option.some.inj ho ▸ rt (rs := [.cell 4 100, .tmp 5]) (vs := [.agg #[.int .u8 0, .int .i64 0, .int .i64 0], .bool false]) (hv := ⟨RVs.cellA 0 rfl rfl Tryz.underlying100 rfl sz100.h, RVs.tmp rfl, trivial⟩)
 refine bd [.int .u8 2, .int .i64 a_0, .int .i64 b_1] ?_
 refine st 0 ?_
 exact Option.some.inj ho ▸ rt (rs := [.cell 4 100, .tmp 5]) (vs := [.agg #[.int .u8 2, .int .i64 a_0, .int .i64 b_1], .bool true]) (hv := ⟨RVs.cellA 0 rfl rfl Tryz.underlying100 rfl sz100.h, RVs.tmp rfl, trivial⟩)
def KN.f (n_0 : Int) : Option Zn :=
  some (⟨1, n_0, 0⟩ : Zn)
theorem KN.ok {n_0} (r) (ho : KN.f n_0 = some r) : Ok Tryz.prog 220 [.int .i64 n_0] [] fun v => HO.pure (v = .agg #[.int .u8 r.Kind, .int .i64 r.A, .int .i64 r.B]) := by
 refine oq 5 Tryz.func220 fun w hV see pb => ?_
 refine al fun b1 => ?_
 refine bd [.int .u8 1, .int .i64 n_0, .int .i64 0] ?_
 refine st 0 ?_
 exact Option.some.inj ho ▸ rt (rs := [.cell 2 100]) (vs := [.agg #[.int .u8 1, .int .i64 n_0, .int .i64 0]]) (hv := ⟨RVs.cellA 0 rfl rfl Tryz.underlying100 rfl sz100.h, trivial⟩)
def WK.j1 (v_0 : Zn) (b12 : Bool) : Option Bool :=
  some b12
def WK.f (v_0 : Zn) : Option Bool :=
  (Ke.f v_0.A v_0.B).bind fun t3 => (KN.f v_0.A).bind fun t6 => if (v_0.Kind == t6.Kind && (v_0.A == t6.A && (v_0.B == t6.B))) = true then (WK.j1 v_0 true) else (if t3.2 = true then (WK.j1 v_0 (v_0.Kind == t3.1.Kind && (v_0.A == t3.1.A && (v_0.B == t3.1.B)))) else (WK.j1 v_0 false))
theorem WK.ok {v_0} (r) (ho : WK.f v_0 = some r) : Ok Tryz.prog 231 [.agg #[.int .u8 v_0.Kind, .int .i64 v_0.A, .int .i64 v_0.B]] [] fun v => HO.pure (v = .bool r) := by
 refine oq 26 Tryz.func231 fun w hV see pb => ?_
 refine bx fun b1 => ?_
 refine kv Ke.ok ho fun t3 ho => ?_
 refine al fun b4 => ?_
 refine st (h := id) 0 ?_
 refine go ?_
 refine oi r (fun z => ∃ b12, z (WK.j1 v_0 b12) [(2, .bool b12)] []) ?_ ?_
 ·rintro _ _ ⟨b12, ho, h⟩
  refine en h ?_
  exact Option.some.inj ho ▸ rt
 refine dr ?_
 obtain ⟨t6, hc7, ho⟩ := bind_some ho
 refine DA.ph 0 4 ?_
 refine tk 0 ?_
 refine DT.tk 1 ?_
 refine DT.tk 2 ?_
 refine DT.one 3 rfl (by kernel_rfl) rfl ?_
 refine SP.callV see (caps := []) (.agg #[.int .u8 t6.Kind, .int .i64 t6.A, .int .i64 t6.B]) fn220.h rfl rfl rfl rfl (fun w2 hP hs sub ap => KN.ok (n_0 := v_0.A) _ hc7 w2 hP sub (All.nil _)) (gg ?_)
 refine QE.atT (fun w2 hw => hw) ?_
 refine dn ?_
 refine d1 4 ?_
 refine SP.val (Val.eqlA (by kernel_rfl) (fun w2 => eqA100 9998 w2 v_0.Kind t6.Kind v_0.A t6.A v_0.B t6.B) rfl rfl) rfl rfl rfl (gg ?_)
 refine d1 5 ?_
 rcases Ws ho with ⟨hc, ho⟩ | ⟨hc, ho⟩
 ·have hg8 := hc
  clear hc
  refine DA.is (d := 18) (b := true) rfl hg8 ?_
  refine DA.ph 6 7 ?_
  refine DT.tn 6 ?_
  refine dn ?_
  refine DA.ph 7 8 ?_
  refine DT.tn 7 ?_
  refine dn ?_
  refine DA.ph 8 10 ?_
  refine DT.tn 8 ?_
  refine DT.tn 9 ?_
  refine dn ?_
  refine DA.ph 10 11 ?_
  refine DT.tn 10 ?_
  refine dn ?_
  refine DA.ph 11 12 ?_
  refine DT.tn 11 ?_
  refine dn ?_
  refine d1 12 ?_
  refine d1 13 ?_
  refine dz ?_
  exact mo ho (fun _ z => ⟨true, z⟩) (sO [])
 have hg9 := (bf hc)
 clear hc
 refine DA.is (d := 18) (b := false) rfl hg9 ?_
 refine d1 6 ?_
 refine d1 7 ?_
 rcases Ws ho with ⟨hc, ho⟩ | ⟨hc, ho⟩
 ·have hg10 := hc
  clear hc
  refine DA.ph 8 10 ?_
  refine DT.is (d := 20) (b := true) rfl hg10 ?_
  refine tk 8 ?_
  refine tk 9 ?_
  refine dn ?_
  refine d1 10 ?_
  refine SP.val (Val.eqlA (by kernel_rfl) (fun w2 => eqA100 9998 w2 v_0.Kind t3.1.Kind v_0.A t3.1.A v_0.B t3.1.B) rfl rfl) rfl rfl rfl (gg ?_)
  refine d1 11 ?_
  refine d1 12 ?_
  refine d1 13 ?_
  refine dz ?_
  exact mo ho (fun _ z => ⟨(v_0.Kind == t3.1.Kind && (v_0.A == t3.1.A && (v_0.B == t3.1.B))), z⟩) (sO [])
 have hg11 := (bf hc)
 clear hc
 refine DA.ph 8 10 ?_
 refine DT.is (d := 20) (b := false) rfl hg11 ?_
 refine DT.tn 8 ?_
 refine DT.tn 9 ?_
 refine dn ?_
 refine DA.ph 10 11 ?_
 refine DT.tn 10 ?_
 refine dn ?_
 refine d1 11 ?_
 refine d1 12 ?_
 refine d1 13 ?_
 refine dz ?_
 exact mo ho (fun _ z => ⟨false, z⟩) (sO [])
def Kg.f (v_0 : Zn) : Option Bool :=
  (WK.f v_0).bind fun t3 => some (!t3)
theorem Kg.ok {v_0} (r) (ho : Kg.f v_0 = some r) : Ok Tryz.prog 230 [.agg #[.int .u8 v_0.Kind, .int .i64 v_0.A, .int .i64 v_0.B]] [] fun v => HO.pure (v = .bool r) := by
 refine oq 6 Tryz.func230 fun w hV see pb => ?_
 refine bx fun b1 => ?_
 refine kv WK.ok ho fun t3 ho => ?_
 exact Option.some.inj ho ▸ rt
inductive ZM.S where
  | start
  | l1 (x7 : Int)
def ZM.F (s_0 : List Zn) : ZM.S → Option (ZM.S ⊕ Int)
  | .start => some (.inl (.l1 0))
  | .l1 x7 => if x7 < (s_0.length : Int) then ((elt s_0 x7).bind fun x11 => (Kg.f x11).bind fun t12 => if t12 = true then (some (.inr x7)) else (some (.inl (.l1 (IntKind.i64.wrap (x7 + 1)))))) else (some (.inr (-1)))
def ZM.f (s_0 : List Zn) : Option Int := runF (ZM.F s_0) .start
theorem ZM.ok {s_0 Yz} (r) (H : ZM.f s_0 = some r) : Ok Tryz.prog 251 [Yz, .func (.func 230) #[] #[]] [slP Z5 Yz s_0] fun v => HO.pure (v = .int .i64 r) := by
 refine oq 19 Tryz.func251 fun w hV see pb => ?_
 obtain ⟨m0, o, ho, hr⟩ := rn H
 refine lo ho hr (fun z => ∃ x7, z (.l1 x7) [(0, Yz), (1, .func (.func 230) #[] #[]), (7, .int .i64 (s_0.length : Int)), (8, .int .i64 x7)] []) (fun _ z => ⟨0, z⟩) ?_
 rintro _ _ _ ⟨x7, m8, o, _, _, ho, hr, h⟩
 refine en h ?_
 refine ci ho (fun ho => ?_) fun ho => ?_
 ·refine ip 0 ho fun x11 ho p9 => ?_
  refine ld 0 ?_
  refine kv Kg.ok ho fun t12 ho => ?_
  refine cb ho (fun ho => ?_) fun ho => ?_
  ·exact fin ho hr ▸ rt
  exact lw ho hr (fun _ z => ⟨(IntKind.i64.wrap (x7 + 1)), z⟩)
 exact fin ho hr ▸ rt
def Xu.f (s_0 : List Zn) : Option Bool :=
  (ZM.f s_0).bind fun t2 => some (decide (t2 ≥ 0))
theorem Xu.ok {s_0 Yz} (r) (ho : Xu.f s_0 = some r) : Ok Tryz.prog 229 [Yz, .func (.func 230) #[] #[]] [slP Z5 Yz s_0] fun v => HO.pure (v = .bool r) := by
 refine oq 9 Tryz.func229 fun w hV see pb => ?_
 refine kv ZM.ok ho fun t2 ho => ?_
 exact Option.some.inj ho ▸ rt
def KC.f (l_0 : List Zn) : Option Bool :=
  (if (l_0.length : Int) ≤ 32 then ((Xu.f l_0).bind fun t4 => some (!t4)) else (some false)).bind fun t5 => some t5
theorem KC.ok {l_0 Y2} (r) (ho : KC.f l_0 = some r) : Ok Tryz.prog 182 [Y2] [slP Z5 Y2 l_0] fun v => HO.pure (v = .bool r) := by
 refine oq 11 Tryz.func182 fun w hV see pb => ?_
 obtain ⟨t5, Z1G, ho⟩ := bind_some ho
 refine SP.jn 4 [] 10 (.bool t5) ?_ ?_
 ·clear Z1G
  refine gg ?_
  exact Option.some.inj ho ▸ rt
 refine bi 6 Z1G (fun hq3 ho => ?_) fun hq3 ho => ?_
 ·refine kv Xu.ok ho fun t4 ho => ?_
  obtain rfl := Option.some.inj ho
  exact jn
 obtain rfl := Option.some.inj ho
 exact jn
inductive YF.S where
  | start
  | l1 (l6 : List Int) (x8 : Int)
def YF.F (n_0 U9 : Int) : YF.S → Option (YF.S ⊕ (List Int))
  | .start => if (0 : Int) ≤ U9 ∧ (1 : Int) * U9 ≤ 281474976710656 ∧ (U9 : Int) ≤ 9223372036854775807 then (some (.inl (.l1 (List.replicate (U9 : Int).toNat 0 : List Int) 0))) else none
  | .l1 l6 x8 => if x8 < ((List.replicate (U9 : Int).toNat 0 : List Int).length : Int) then (if 0 ≤ (IntKind.i64.wrap (8 * x8)) then ((elt l6 x8).bind fun x11 => some (.inl (.l1 (l6.set x8.toNat (IntKind.u8.wrap (shrI .i64 n_0 (IntKind.i64.wrap (8 * x8))))) (IntKind.i64.wrap (x8 + 1))))) else none) else (some (.inr l6))
def YF.f (n_0 U9 : Int) : Option (List Int) := runF (YF.F n_0 U9) .start
theorem YF.ok {n_0 U9} (r) (H : YF.f n_0 U9 = some r) : Ok Tryz.prog 234 [.int .i64 n_0, .int .i64 U9] [] fun v => HO.ex fun u0 : Value => HO.pand (v = u0) (HO.seps [slO (kInt .u8) 5 u0 r]) := by
 refine oq 24 Tryz.func234 fun w hV see pb => ?_
 obtain ⟨m0, o, ho, hr⟩ := rn H
 obtain ⟨hb, ho⟩ := X6 ho
 refine SP.makeO (k := (kInt .u8)) (z := 0) Tryz.underlying31 inf5.h rfl (fun _ => rfl) rfl rfl rfl rfl hb (fun v1 => ?_)
 clear hb
 refine gg ?_
 refine lo ho hr (fun z => ∃ l6 x8 v7, z (.l1 l6 x8) [(0, .int .i64 n_0), (5, v7), (10, .int .i64 ((List.replicate (U9 : Int).toNat 0 : List Int).length : Int)), (11, .int .i64 x8)] [slO (kInt .u8) 5 v7 l6]) (fun _ z => ⟨(List.replicate (U9 : Int).toNat 0 : List Int), 0, v1, z⟩) ?_
 rintro _ _ _ ⟨l6, x8, v7, m9, o, _, _, ho, hr, h⟩
 refine en h ?_
 refine ci ho (fun ho => ?_) fun ho => ?_
 ·obtain ⟨hz, ho⟩ := X6 ho
  refine SP.val (Val.shr hz rfl rfl) rfl rfl rfl ?_
  clear hz
  refine gg ?_
  obtain ⟨x11, Z3A, ho⟩ := YG ho
  refine SP.indexW (fun w2 hw => slO.whole (St.own 0 rfl see.sub see.dj hw)) Tryz.underlying31 sz5.h Z3A.1 Z3A.2 rfl rfl rfl rfl (fun p10 Z9Q => ?_)
  refine SP.storeO (z0 := IntKind.u8.wrap (shrI .i64 n_0 (IntKind.i64.wrap (8 * x8)))) (off := 0) (vs := [.int .u8 (IntKind.u8.wrap (shrI .i64 n_0 (IntKind.i64.wrap (8 * x8))))]) see 0 rfl Z3A.2 Z9Q rfl rfl sz5.h rfl (fun a cs _ e => by subst e; rfl) rfl rfl rfl (gg ?_)
  exact lw ho hr (fun _ z => ⟨(l6.set x8.toNat (IntKind.u8.wrap (shrI .i64 n_0 (IntKind.i64.wrap (8 * x8))))), (IntKind.i64.wrap (x8 + 1)), v7, z⟩)
 exact fin ho hr ▸ rt (sO [0])
def Tf.f (n_0 : Int) : Option (List Int) :=
  (YF.f n_0 8).bind fun t1 => some t1
theorem Tf.ok {n_0} (r) (ho : Tf.f n_0 = some r) : Ok Tryz.prog 232 [.int .i64 n_0] [] fun v => HO.ex fun u0 : Value => HO.pand (v = u0) (HO.seps [slO (kInt .u8) 5 u0 r]) := by
 refine oq 5 Tryz.func232 fun w hV see pb => ?_
 refine k1 YF.ok ho fun t1 ho v2 => ?_
 exact Option.some.inj ho ▸ rt (sO [0])
def TI.f (XQ n_1 : Int) : Option Bool :=
  (if n_1 ≥ 0 then ((if XQ = 8 then (some true) else (if 0 ≤ (IntKind.i64.wrap (8 * XQ)) then (some (decide ((shrI .i64 n_1 (IntKind.i64.wrap (8 * XQ))) = 0))) else none)).bind fun t5 => some t5) else (some false)).bind fun t6 => some t6
theorem TI.ok {XQ n_1} (r) (ho : TI.f XQ n_1 = some r) : Ok Tryz.prog 233 [.int .i64 XQ, .int .i64 n_1] [] fun v => HO.pure (v = .bool r) := by
 refine oq 18 Tryz.func233 fun w hV see pb => ?_
 obtain ⟨t6, Z7s, ho⟩ := bind_some ho
 refine SP.jn 10 [] 17 (.bool t6) ?_ ?_
 ·clear Z7s
  refine gg ?_
  exact Option.some.inj ho ▸ rt
 refine bi 7 Z7s (fun hq2 ho => ?_) fun hq2 ho => ?_
 ·obtain ⟨t5, Z1G, ho⟩ := bind_some ho
  refine SP.jn 6 [7] 16 (.bool t5) ?_ ?_
  ·clear Z1G
   refine gg ?_
   obtain rfl := Option.some.inj ho
   exact jn
  refine bi 10 Z1G (fun hq4 ho => ?_) fun hq4 ho => ?_
  ·obtain rfl := Option.some.inj ho
   exact jn
  obtain ⟨hz, ho⟩ := X6 ho
  refine SP.val (Val.shr hz rfl rfl) rfl rfl rfl ?_
  clear hz
  refine gg ?_
  obtain rfl := Option.some.inj ho
  exact jn
 obtain rfl := Option.some.inj ho
 exact jn
def XO.f (XQ n_1 : Int) : Option ((List Int) × Int) :=
  if ((decide (XQ < 1)) || (decide (XQ > 8))) = true then (some ([], 2)) else ((TI.f XQ n_1).bind fun t4 => if (!t4) = true then (some ([], 11)) else ((YF.f n_1 XQ).bind fun t6 => some (t6, 0)))
theorem XO.ok {XQ n_1} (r) (ho : XO.f XQ n_1 = some r) : Ok Tryz.prog 184 [.int .i64 XQ, .int .i64 n_1] [] fun v => HO.ex fun u0 : Value => HO.pand (v = .tuple #[u0, .int .i64 r.2]) (HO.seps [slO (kInt .u8) 5 u0 r.1]) := by
 refine oq 21 Tryz.func184 fun w hV see pb => ?_
 refine SP.jn 3 [0, 1] 12 (.bool ((decide (XQ < 1)) || (decide (XQ > 8)))) ?_ ?_
 ·refine gg ?_
  refine cb ho (fun ho => ?_) fun ho => ?_
  ·exact Option.some.inj ho ▸ rt (fun _ h => St.selO [0] rfl rfl (St.addO (slO.nil (kInt .u8) 5) h))
  refine kv TI.ok ho fun t4 ho => ?_
  refine cb ho (fun ho => ?_) fun ho => ?_
  ·exact Option.some.inj ho ▸ rt (fun _ h => St.selO [0] rfl rfl (St.addO (slO.nil (kInt .u8) 5) h))
  refine k1 YF.ok ho fun t6 ho v7 => ?_
  exact Option.some.inj ho ▸ rt (sO [0])
 refine bb 9 (fun hq2 => ?_) fun hq2 => ?_
 ·exact jb (WL hq2)
 exact jb (WM hq2 rfl)
def UR.f (v_0 : Zn) : Option ((List Int) × Int) :=
  (WK.f v_0).bind fun t3 => if (!t3) = true then (some ([], 30)) else (if v_0.Kind = 1 then ((Tf.f v_0.A).bind fun t7 => if ([v_0.Kind].length + t7.length) * 1 ≤ 140737488355328 then (some ([v_0.Kind] ++ t7, 0)) else none) else ((XO.f 3 (IntKind.i64.wrap (v_0.A + 1048576))).bind fun t12 => if t12.2 ≠ 0 then (some ([], 30)) else (if ([v_0.Kind].length + t12.1.length) * 1 ≤ 140737488355328 then ((XO.f 3 (IntKind.i64.wrap (v_0.B + 1048576))).bind fun t18 => if t18.2 ≠ 0 then (some ([], 30)) else (if (([v_0.Kind] ++ t12.1).length + t18.1.length) * 1 ≤ 140737488355328 then (some (([v_0.Kind] ++ t12.1) ++ t18.1, 0)) else none)) else none)))
theorem UR.ok {v_0} (r) (ho : UR.f v_0 = some r) : Ok Tryz.prog 183 [.agg #[.int .u8 v_0.Kind, .int .i64 v_0.A, .int .i64 v_0.B]] [] fun v => HO.ex fun u0 : Value => HO.pand (v = .tuple #[u0, .int .i64 r.2]) (HO.seps [slO (kInt .u8) 5 u0 r.1]) := by
 refine oq 44 Tryz.func183 fun w hV see pb => ?_
 refine bx fun b1 => ?_
 refine kv WK.ok ho fun t3 ho => ?_
 refine cb ho (fun ho => ?_) fun ho => ?_
 ·exact Option.some.inj ho ▸ rt (fun _ h => St.selO [0] rfl rfl (St.addO (slO.nil (kInt .u8) 5) h))
 refine li (kInt .u8) [v_0.Kind] fun v5 => ?_
 refine ci ho (fun ho => ?_) fun ho => ?_
 ·refine k1 (h := fun _ _ => id) Tf.ok ho fun t7 ho v8 => ?_
  refine fz 0 ?_
  refine ap 0 0 ho fun v10 ho => ?_
  exact Option.some.inj ho ▸ rt (sO [0])
 refine bd [.int .i64 v_0.A, .int .i64 v_0.B] ?_
 refine CP.rounds 4 ?_
 refine LP.step ?_
 refine CP.seq ?_
 refine CP.region ?_
 refine cs (.bool true) ?_
 refine CP.condT rfl rfl (gg ?_)
 refine SP.val (Val.Z0L 0 Tryz.underlying297 Tryz.underlying2 rfl sz2.h rfl rfl rfl rfl) rfl rfl rfl (gg ?_)
 refine k1 XO.ok ho fun t12 ho v13 => ?_
 refine ci ho (fun ho => ?_) fun ho => ?_
 ·exact Option.some.inj ho ▸ rt (fun _ h => St.selO [0] rfl rfl (St.addO (slO.nil (kInt .u8) 5) h))
 refine fz 0 ?_
 refine ap (h := fun _ => id) 0 0 ho fun v16 ho => ?_
 refine SP.val (Val.assign rfl) rfl rfl rfl ?_
 refine SP.nil ?_
 refine QE.blockN ?_
 refine QE.then ?_
 refine CP.region ?_
 refine cs (.int .i64 1) ?_
 refine QE.round ?_
 refine LP.step ?_
 refine CP.seq ?_
 refine CP.region ?_
 refine cs (.bool true) ?_
 refine CP.condT rfl rfl (gg ?_)
 refine SP.val (Val.Z0L 1 Tryz.underlying297 Tryz.underlying2 rfl sz2.h rfl rfl rfl rfl) rfl rfl rfl (gg ?_)
 refine k1 XO.ok ho fun t18 ho v19 => ?_
 refine ci ho (fun ho => ?_) fun ho => ?_
 ·exact Option.some.inj ho ▸ rt (fun _ h => St.selO [0] rfl rfl (St.addO (slO.nil (kInt .u8) 5) h))
 refine fz 0 ?_
 refine ap (h := fun _ => id) 0 0 ho fun v22 ho => ?_
 refine SP.val (Val.assign rfl) rfl rfl rfl ?_
 refine SP.nil ?_
 refine QE.blockN ?_
 refine QE.then ?_
 refine CP.region ?_
 refine cs (.int .i64 2) ?_
 refine QE.round ?_
 refine LP.step ?_
 refine CP.seq ?_
 refine CP.region ?_
 refine cs (.bool false) ?_
 refine CP.condF rfl rfl (gg ?_)
 exact Option.some.inj ho ▸ rt (sO [0])
inductive XV.S where
  | start
  | l1 (l19 : List Int) (x21 : Int)
def XV.F (l_0 : List Zn) : XV.S → Option (XV.S ⊕ ((List Int) × Int))
  | .start => (KC.f l_0).bind fun t2 => if (!t2) = true then (some (.inr ([], 60))) else (some (.inl (.l1 [IntKind.u8.wrap (l_0.length : Int)] 0)))
  | .l1 l19 x21 => if x21 < (l_0.length : Int) then ((elt l_0 x21).bind fun x25 => (UR.f x25).bind fun t28 => if t28.2 ≠ 0 then (some (.inr ([], 60))) else (if (l19.length + t28.1.length) * 1 ≤ 140737488355328 then (some (.inl (.l1 (l19 ++ t28.1) (IntKind.i64.wrap (x21 + 1))))) else none)) else (some (.inr (l19, 0)))
def XV.f (l_0 : List Zn) : Option ((List Int) × Int) := runF (XV.F l_0) .start
theorem XV.ok {l_0 Y2} (r) (H : XV.f l_0 = some r) : Ok Tryz.prog 124 [Y2] [slP Z5 Y2 l_0] fun v => HO.ex fun u0 : Value => HO.pand (v = .tuple #[u0, .int .i64 r.2]) (HO.seps [slO (kInt .u8) 5 u0 r.1]) := by
 refine oq 34 Tryz.func124 fun w hV see pb => ?_
 obtain ⟨m0, o, ho, hr⟩ := rn H
 refine kv KC.ok ho fun t2 ho => ?_
 refine cb ho (fun ho => ?_) fun ho => ?_
 ·exact fin ho hr ▸ rt (fun _ h => St.selO [0] rfl rfl (St.addO (slO.nil (kInt .u8) 5) h))
 refine li (kInt .u8) [IntKind.u8.wrap (l_0.length : Int)] fun v4 => ?_
 refine lo ho hr (fun z => ∃ l19 x21 v20, z (.l1 l19 x21) [(4, v20), (16, Y2), (17, .int .i64 (l_0.length : Int)), (18, .int .i64 x21)] [slO (kInt .u8) 5 v20 l19]) (fun _ z => ⟨[IntKind.u8.wrap (l_0.length : Int)], 0, v4, z⟩) ?_
 rintro _ _ _ ⟨l19, x21, v20, m22, o, _, _, ho, hr, h⟩
 refine en h ?_
 refine ci ho (fun ho => ?_) fun ho => ?_
 ·refine ip 0 ho fun x25 ho p23 => ?_
  refine ld 0 ?_
  refine al fun b26 => ?_
  refine st 0 ?_
  refine k1 UR.ok ho fun t28 ho v29 => ?_
  refine ci ho (fun ho => ?_) fun ho => ?_
  ·exact fin ho hr ▸ rt (fun _ h => St.selO [0] rfl rfl (St.addO (slO.nil (kInt .u8) 5) h))
  refine fz 0 ?_
  refine ap 1 0 ho fun v32 ho => ?_
  exact lw ho hr (fun _ z => ⟨(l19 ++ t28.1), (IntKind.i64.wrap (x21 + 1)), v32, z⟩) (sO [1])
 exact fin ho hr ▸ rt (sO [0])
shelf_lay_g Lays8.n4 Nm8 4 at Tryz 135 as Tryz.grow135
theorem Z3B {n : Int} (h0 : 0 ≤ n) (hb : n * 1 ≤ 140737488355328) (w : World) (hV : Hp) :
    Trip Tryz.prog 135 #[.slice none 0 0, .int .i64 n] em hV w (fun r => HO.ex fun u : Value => HO.pand (r = u) (HO.seps [slO (kInt .u8) 5 u []])) := by
  obtain ⟨m, rfl⟩ := Int.eq_ofNat_of_zero_le h0
  obtain ⟨i0, z, hi0, hz0, hsz, hbt, hzl⟩ := Z6R (P := Tryz.prog) inf5.h
  by_cases hm : m = 0
  · subst hm
    exact (Any8.slices_Grow_room Tryz.grow135 none 0 0 0 w (by omega) (by omega) (by omega) (by omega)).mono fun e w' ⟨he, hw⟩ => by
      subst hw
      exact ⟨_, he, Met.refl _, fun _ _ e _ => e, em, em, fun _ _ _ => rfl, fun _ _ _ => rfl, Dj.Yw _, Sub.em _, Sub.em _, _, rfl, em, em, Dj.Yw _, Sub.em _, Sub.em _, slO.nil _ _ _, trivial⟩
  · have h := Any8.slices_Grow_grow Tryz.grow135 i0 z hi0 hz0 (by omega) none 0 0 m [] w (by omega) (by omega) (by rw [hbt]; omega) (by omega) (by simp) (fun _ => rfl) (fun a ha => by cases ha)
    exact h.mono fun e w' ⟨he, hw⟩ => Z52 he hw (grownCap_le_maxLen _ _ _ _ (by simp only [maxLen]; omega)) (Z53 (by have := grownCap_ge w (0 + m) 0 5; rw [Nat.zero_add] at this ⊢; exact this) hzl)
inductive ZA.S where
  | start
  | l1 (x36 x37 : Int)
  | l2 (l57 : List Int) (x59 : Int)
def ZA.j1 (WW : (List (List Int))) (x36 x37 : Int) (x41 : List Int) : Option (ZA.S ⊕ (List Int)) :=
  some (.inl (.l1 (IntKind.i64.wrap (x36 + (x41.length : Int))) (IntKind.i64.wrap (x37 + 1))))
def ZA.F (WW : (List (List Int))) : ZA.S → Option (ZA.S ⊕ (List Int))
  | .start => some (.inl (.l1 0 0))
  | .l1 x36 x37 => if x37 < (WW.length : Int) then ((elt WW x37).bind fun x41 => if (IntKind.i64.wrap (x36 + (x41.length : Int))) < 0 then (none) else (ZA.j1 WW x36 x37 x41)) else (if 0 ≤ x36 ∧ x36 * 1 ≤ 140737488355328 then (some (.inl (.l2 ([] : List Int) 0))) else none)
  | .l2 l57 x59 => if x59 < (WW.length : Int) then ((elt WW x59).bind fun x63 => if (l57.length + x63.length) * 1 ≤ 140737488355328 then (some (.inl (.l2 (l57 ++ x63) (IntKind.i64.wrap (x59 + 1))))) else none) else (some (.inr l57))
def ZA.f (WW : (List (List Int))) : Option (List Int) := runF (ZA.F WW) .start
theorem ZA.ok {WW UJ} (r) (H : ZA.f WW = some r) : Ok Tryz.prog 76 [UJ] [slP (kSl (kInt .u8)) UJ WW] fun v => HO.ex fun u0 : Value => HO.pand (v = u0) (HO.seps [slO (kInt .u8) 5 u0 r]) := by
 refine oq 36 Tryz.func76 fun w hV see pb => ?_
 obtain ⟨m0, o, ho, hr⟩ := rn H
 refine lo ho hr (fun z => ∃ x36 x37, z (.l1 x36 x37) [(0, UJ), (3, .int .i64 x36), (9, UJ), (10, .int .i64 (WW.length : Int)), (11, .int .i64 x37)] []) (fun _ z => ⟨0, 0, z⟩) ?_
 rintro _ _ _ ⟨x36, x37, m38, o, _, _, ho, hr, h⟩
 refine en h ?_
 refine ci (ht := id) ho (fun ho => ?_) fun ho => ?_
 ·refine go ?_
  refine ji hr (fun z => ∃ x41, z (ZA.j1 WW x36 x37 x41) [(0, UJ), (3, .int .i64 (IntKind.i64.wrap (x36 + (x41.length : Int)))), (9, UJ), (10, .int .i64 (WW.length : Int)), (11, .int .i64 x37)] []) ?_ ?_
  ·rintro _ _ ⟨x41, m44, o, _, ho, hr, h⟩
   refine en h ?_
   exact lw ho hr (fun _ z => ⟨(IntKind.i64.wrap (x36 + (x41.length : Int))), (IntKind.i64.wrap (x37 + 1)), z⟩)
  refine gg ?_
  refine ip 0 ho fun x41 ho p39 => ?_
  refine SP.loadPS see 0 rfl Tryz.underlying31 rfl rfl rfl (fun v42 => gg ?_)
  refine ci ho (fun ho => ?_) fun ho => ?_
  ·cases ho
  exact mi ho hr (fun _ z => ⟨x41, z⟩)
 obtain ⟨hb, ho⟩ := X6 ho
 refine SP.callK see (caps := []) _ fn135.h rfl rfl rfl rfl (fun w2 hP hs sub ap => Z3B hb.1 hb.2 w2 hP) (SP.k1 fun v46 => ?_)
 clear hb
 refine gg ?_
 refine lo ho hr (fun z => ∃ l57 x59 v58, z (.l2 l57 x59) [(6, v58), (25, UJ), (26, .int .i64 (WW.length : Int)), (27, .int .i64 x59)] [slO (kInt .u8) 5 v58 l57]) (fun _ z => ⟨([] : List Int), 0, v46, z⟩) ?_
 rintro _ _ _ ⟨l57, x59, v58, m60, o, _, _, ho, hr, h⟩
 refine en h ?_
 refine ci ho (fun ho => ?_) fun ho => ?_
 ·refine ip 0 ho fun x63 ho p61 => ?_
  refine SP.loadPS see 0 rfl Tryz.underlying31 rfl rfl rfl (fun v64 => gg ?_)
  refine ap 0 0 ho fun v66 ho => ?_
  exact lw ho hr (fun _ z => ⟨(l57 ++ x63), (IntKind.i64.wrap (x59 + 1)), v66, z⟩)
 exact fin ho hr ▸ rt (sO [0])
def Tg.f (m_0 : Zb) : Option (List Int) :=
  (ZA.f [m_0.Args, m_0.Locals]).bind fun t8 => some t8
theorem Tg.ok {m_0 YD Yf YL} (r) (ho : Tg.f m_0 = some r) : Ok Tryz.prog 62 [.agg #[YD, Yf, .int .u8 m_0.Result, .bool m_0.Reads, .int .i64 m_0.Fuel, .int .i64 m_0.Stack, .int .i64 m_0.Heap, YL]] [slP (kInt .u8) YD m_0.Args, slP (kInt .u8) Yf m_0.Locals, slP Za YL m_0.Code] fun v => HO.ex fun u0 : Value => HO.pand (v = u0) (HO.seps [slO (kInt .u8) 5 u0 r]) := by
 refine oq 9 Tryz.func62 fun w hV see pb => ?_
 refine bx fun b4 => ?_
 refine SP.litS (k := (kSl (kInt .u8))) (xs := [m_0.Args, m_0.Locals]) (vs := [YD, Yf]) Tryz.underlying191 inf31.h rfl rfl rfl rfl rfl rfl (fun _ ap => ⟨slR.cells1 (ap.get 0 rfl), slR.cells1 (ap.get 1 rfl), trivial⟩) (fun _ ap => ⟨[YD], _, rfl, ⟨_, rfl, ap.get 0 rfl⟩, ⟨[Yf], _, rfl, ⟨_, rfl, ap.get 1 rfl⟩, rfl⟩⟩) rfl rfl rfl (fun v6 => ?_)
 obtain ⟨t8, hc, ho⟩ := bind_some ho
 refine SP.callKO see (caps := []) _ fn76.h rfl rfl rfl rfl (fun w2 hs => ZA.ok _ hc w2 (hp w2) (Sub.refl _) (aS (slO.read (St.own 0 rfl see.sub see.dj hs) (Sub.refl _) (Sub.refl _)) (All.nil _))) (fun v a a2 b ⟨v9, e, h⟩ => ⟨v9, e, (Sep.fcons (fun _ => slO.flip (fun _ _ _ _ h => h)) (fun _ => Sep.fnil)) h⟩) (SP.k1 fun v9 => ?_)
 clear hc
 refine gg ?_
 exact Option.some.inj ho ▸ rt (sO [0])
def Ti.f (v_0 : Zn) : Option Bool :=
  (WK.f v_0).bind fun t3 => some (t3 || (v_0.Kind == 3 && (v_0.A == (if 0 > v_0.A then 0 else v_0.A) && (v_0.B == 0))))
theorem Ti.ok {v_0} (r) (ho : Ti.f v_0 = some r) : Ok Tryz.prog 187 [.agg #[.int .u8 v_0.Kind, .int .i64 v_0.A, .int .i64 v_0.B]] [] fun v => HO.pure (v = .bool r) := by
 refine oq 13 Tryz.func187 fun w hV see pb => ?_
 refine bx fun b1 => ?_
 refine kv WK.ok ho fun t3 ho => ?_
 refine SP.jn 7 [] 12 (.bool (t3 || (v_0.Kind == 3 && (v_0.A == (if 0 > v_0.A then 0 else v_0.A) && (v_0.B == 0))))) ?_ ?_
 ·refine gg ?_
  exact Option.some.inj ho ▸ rt
 refine bb 5 (fun hq5 => ?_) fun hq5 => ?_
 ·exact jb (WL hq5)
 refine SP.val (Val.max2 rfl rfl) rfl rfl rfl ?_
 refine bd [.int .u8 3, .int .i64 (if 0 > v_0.A then 0 else v_0.A), .int .i64 0] ?_
 refine SP.val (Val.eqlA (by kernel_rfl) (fun w2 => eqA100 9998 w2 v_0.Kind 3 v_0.A (if 0 > v_0.A then 0 else v_0.A) v_0.B 0) rfl rfl) rfl rfl rfl (gg ?_)
 exact jb (WM hq5 rfl)
def Kh.f (UL : Int) : Option (Zn × Bool) :=
  (Ti.f (⟨UL, 0, 0⟩ : Zn)).bind fun t5 => if (!t5) = true then (some ((⟨0, 0, 0⟩ : Zn), false)) else (some ((⟨UL, 0, 0⟩ : Zn), true))
theorem Kh.ok {UL} (r) (ho : Kh.f UL = some r) : Ok Tryz.prog 127 [.int .u8 UL] [] fun v => HO.pure (v = .tuple #[.agg #[.int .u8 r.1.Kind, .int .i64 r.1.A, .int .i64 r.1.B], .bool r.2]) := by
 refine oq 12 Tryz.func127 fun w hV see pb => ?_
 refine al fun b1 => ?_
 refine bd [.int .u8 UL, .int .i64 0, .int .i64 0] ?_
 refine al fun b3 => ?_
 refine st 0 ?_
 refine kv Ti.ok ho fun t5 ho => ?_
 refine cb ho (fun ho => ?_) fun ho => ?_
 ·refine bd [.int .u8 0, .int .i64 0, .int .i64 0] ?_
  refine st 1 ?_
  exact Option.some.inj ho ▸ rt (rs := [.cell 2 100, .tmp 3]) (vs := [.agg #[.int .u8 0, .int .i64 0, .int .i64 0], .bool false]) (hv := ⟨RVs.cellA 1 rfl rfl Tryz.underlying100 rfl sz100.h, RVs.tmp rfl, trivial⟩)
 refine st 1 ?_
 exact Option.some.inj ho ▸ rt (rs := [.cell 2 100, .tmp 3]) (vs := [.agg #[.int .u8 UL, .int .i64 0, .int .i64 0], .bool true]) (hv := ⟨RVs.cellA 1 rfl rfl Tryz.underlying100 rfl sz100.h, RVs.tmp rfl, trivial⟩)
def Uo.f (UL : Int) : Option Bool :=
  (Kh.f UL).bind fun t1 => some t1.2
theorem Uo.ok {UL} (r) (ho : Uo.f UL = some r) : Ok Tryz.prog 63 [.int .u8 UL] [] fun v => HO.pure (v = .bool r) := by
 refine oq 11 Tryz.func63 fun w hV see pb => ?_
 refine kv Kh.ok ho fun t1 ho => ?_
 refine al fun b2 => ?_
 refine st 0 ?_
 exact Option.some.inj ho ▸ rt
def Vd.f (n_0 Z0d : Int) : Option Bool :=
  some ((decide (n_0 ≥ 0)) && (decide (n_0 ≤ Z0d)))
theorem Vd.ok {n_0 Z0d} (r) (ho : Vd.f n_0 Z0d = some r) : Ok Tryz.prog 64 [.int .i64 n_0, .int .i64 Z0d] [] fun v => HO.pure (v = .bool r) := by
 refine oq 12 Tryz.func64 fun w hV see pb => ?_
 refine SP.jn 4 [] 11 (.bool ((decide (n_0 ≥ 0)) && (decide (n_0 ≤ Z0d)))) ?_ ?_
 ·refine gg ?_
  exact Option.some.inj ho ▸ rt
 refine bb 7 (fun hq2 => ?_) fun hq2 => ?_
 ·exact jb (XT hq2 rfl)
 exact jb (XU hq2)
inductive XZ.S where
  | start
  | l1 (t12 : List Int) (x28 : Int)
def XZ.F (m_0 : Zb) : XZ.S → Option (XZ.S ⊕ Bool)
  | .start => if (((decide ((m_0.Args.length : Int) > 4)) || (decide ((IntKind.i64.wrap ((m_0.Args.length : Int) + (m_0.Locals.length : Int))) > 16))) || ((decide (m_0.Result ≠ 1)) && (decide (m_0.Result ≠ 2)))) = true then (some (.inr false)) else ((Tg.f m_0).bind fun t12 => some (.inl (.l1 t12 0)))
  | .l1 t12 x28 => if x28 < (t12.length : Int) then ((elt t12 x28).bind fun x31 => (Uo.f x31).bind fun t32 => if (!t32) = true then (some (.inr false)) else (some (.inl (.l1 t12 (IntKind.i64.wrap (x28 + 1)))))) else ((Vd.f m_0.Fuel 1048576).bind fun t33 => (if t33 = true then ((Vd.f m_0.Stack 256).bind fun t36 => some t36) else (some false)).bind fun t37 => (if t37 = true then ((Vd.f m_0.Heap 1024).bind fun t40 => some t40) else (some false)).bind fun t41 => some (.inr t41))
def XZ.f (m_0 : Zb) : Option Bool := runF (XZ.F m_0) .start
theorem XZ.ok {m_0 YD Yf YL} (r) (H : XZ.f m_0 = some r) : Ok Tryz.prog 32 [.agg #[YD, Yf, .int .u8 m_0.Result, .bool m_0.Reads, .int .i64 m_0.Fuel, .int .i64 m_0.Stack, .int .i64 m_0.Heap, YL]] [slP (kInt .u8) YD m_0.Args, slP (kInt .u8) Yf m_0.Locals, slP Za YL m_0.Code] fun v => HO.pure (v = .bool r) := by
 refine oq 53 Tryz.func32 fun w hV see pb => ?_
 obtain ⟨m0, o, ho, hr⟩ := rn H
 refine bx fun b4 => ?_
 refine SP.jn 9 [1] 18 (.bool ((decide ((m_0.Args.length : Int) > 4)) || (decide ((IntKind.i64.wrap ((m_0.Args.length : Int) + (m_0.Locals.length : Int))) > 16)))) ?_ ?_
 ·refine gg ?_
  refine SP.jn 9 [1] 28 (.bool (((decide ((m_0.Args.length : Int) > 4)) || (decide ((IntKind.i64.wrap ((m_0.Args.length : Int) + (m_0.Locals.length : Int))) > 16))) || ((decide (m_0.Result ≠ 1)) && (decide (m_0.Result ≠ 2))))) ?_ ?_
  ·refine gg ?_
   refine cb ho (fun ho => ?_) fun ho => ?_
   ·exact fin ho hr ▸ rt
   refine k1 Tg.ok ho fun t12 ho v13 => ?_
   refine lo ho hr (fun z => ∃ x28, z (.l1 t12 x28) [(1, .pointer (some ⟨b4, 0, none⟩)), (30, v13), (31, .int .i64 (t12.length : Int)), (32, .int .i64 x28)] [slO (kInt .u8) 5 v13 t12, boxO b4 [YD, Yf, .int .u8 m_0.Result, .bool m_0.Reads, .int .i64 m_0.Fuel, .int .i64 m_0.Stack, .int .i64 m_0.Heap, YL] 34]) (fun _ z => ⟨0, z⟩) ?_
   rintro _ _ _ ⟨x28, m29, o, _, _, ho, hr, h⟩
   refine en h ?_
   refine ci ho (fun ho => ?_) fun ho => ?_
   ·obtain ⟨x31, J9, ho⟩ := YG ho
    refine SP.indexW (fun w2 hw => slO.whole (St.own 0 rfl see.sub see.dj hw)) Tryz.underlying31 sz5.h J9.1 J9.2 rfl rfl rfl rfl (fun p30 Z5d => ?_)
    refine SP.val (Val.loadW1 (off := 0) (k := (kInt .u8)) (fun w2 hw => slO.whole (St.own 0 rfl see.sub see.dj hw)) J9.2 Z5d (fun _ _ e => by subst e; rfl) Tryz.underlying5 rfl rfl) rfl rfl rfl (gg ?_)
    refine kv Uo.ok ho fun t32 ho => ?_
    refine cb ho (fun ho => ?_) fun ho => ?_
    ·exact fin ho hr ▸ rt
    exact lw ho hr (fun _ z => ⟨(IntKind.i64.wrap (x28 + 1)), z⟩)
   refine kv Vd.ok ho fun t33 ho => ?_
   obtain ⟨t37, Z5I, ho⟩ := bind_some ho
   refine SP.jn 4 [1] 47 (.bool t37) ?_ ?_
   ·clear Z5I
    refine gg ?_
    obtain ⟨t41, Z0e, ho⟩ := bind_some ho
    refine SP.jn 4 [] 52 (.bool t41) ?_ ?_
    ·clear Z0e
     refine gg ?_
     exact fin ho hr ▸ rt
    refine bc 48 Z0e (fun hq39 ho => ?_) fun hq39 ho => ?_
    ·refine kv Vd.ok ho fun t40 ho => ?_
     obtain rfl := Option.some.inj ho
     exact jn
    obtain rfl := Option.some.inj ho
    exact jn
   refine bc 43 Z5I (fun hq35 ho => ?_) fun hq35 ho => ?_
   ·refine kv Vd.ok ho fun t36 ho => ?_
    obtain rfl := Option.some.inj ho
    exact jn
   obtain rfl := Option.some.inj ho
   exact jn
  refine bb 19 (fun hq9 => ?_) fun hq9 => ?_
  ·exact jb (WL hq9)
  refine SP.jn 4 [1, 19] 27 (.bool ((decide (m_0.Result ≠ 1)) && (decide (m_0.Result ≠ 2)))) ?_ ?_
  ·refine gg ?_
   exact jb (WM hq9 rfl)
  refine bb 23 (fun hq11 => ?_) fun hq11 => ?_
  ·exact jb (XT hq11 rfl)
  exact jb (XU hq11)
 refine bb 9 (fun hq7 => ?_) fun hq7 => ?_
 ·exact jb (WL hq7)
 exact jb (WM hq7 rfl)
def WB.j1 (m_0 : Zb) (l32 : List Int) : Option ((List Int) × Int) :=
  (XO.f 3 m_0.Fuel).bind fun t36 => if t36.2 ≠ 0 then (some ([], 70)) else (if (l32.length + t36.1.length) * 1 ≤ 140737488355328 then ((XO.f 2 m_0.Stack).bind fun t44 => if t44.2 ≠ 0 then (some ([], 70)) else (if ((l32 ++ t36.1).length + t44.1.length) * 1 ≤ 140737488355328 then ((XO.f 2 m_0.Heap).bind fun t52 => if t52.2 ≠ 0 then (some ([], 70)) else (if (((l32 ++ t36.1) ++ t44.1).length + t52.1.length) * 1 ≤ 140737488355328 then (some (((l32 ++ t36.1) ++ t44.1) ++ t52.1, 0)) else none)) else none)) else none)
def WB.f (m_0 : Zb) : Option ((List Int) × Int) :=
  (XZ.f m_0).bind fun t6 => if (!t6) = true then (some ([], 70)) else (if ([IntKind.u8.wrap (m_0.Args.length : Int)].length + m_0.Args.length) * 1 ≤ 140737488355328 then (if (([IntKind.u8.wrap (m_0.Args.length : Int)] ++ m_0.Args).length + [IntKind.u8.wrap (m_0.Locals.length : Int)].length) * 1 ≤ 140737488355328 then (if ((([IntKind.u8.wrap (m_0.Args.length : Int)] ++ m_0.Args) ++ [IntKind.u8.wrap (m_0.Locals.length : Int)]).length + m_0.Locals.length) * 1 ≤ 140737488355328 then (if (((([IntKind.u8.wrap (m_0.Args.length : Int)] ++ m_0.Args) ++ [IntKind.u8.wrap (m_0.Locals.length : Int)]) ++ m_0.Locals).length + [m_0.Result, 0].length) * 1 ≤ 140737488355328 then (if m_0.Reads = true then ((elt (((([IntKind.u8.wrap (m_0.Args.length : Int)] ++ m_0.Args) ++ [IntKind.u8.wrap (m_0.Locals.length : Int)]) ++ m_0.Locals) ++ [m_0.Result, 0]) (IntKind.i64.wrap (((((([IntKind.u8.wrap (m_0.Args.length : Int)] ++ m_0.Args) ++ [IntKind.u8.wrap (m_0.Locals.length : Int)]) ++ m_0.Locals) ++ [m_0.Result, 0]).length : Int) - 1))).bind fun x31 => WB.j1 m_0 ((((([IntKind.u8.wrap (m_0.Args.length : Int)] ++ m_0.Args) ++ [IntKind.u8.wrap (m_0.Locals.length : Int)]) ++ m_0.Locals) ++ [m_0.Result, 0]).set (IntKind.i64.wrap (((((([IntKind.u8.wrap (m_0.Args.length : Int)] ++ m_0.Args) ++ [IntKind.u8.wrap (m_0.Locals.length : Int)]) ++ m_0.Locals) ++ [m_0.Result, 0]).length : Int) - 1)).toNat 1)) else (WB.j1 m_0 (((([IntKind.u8.wrap (m_0.Args.length : Int)] ++ m_0.Args) ++ [IntKind.u8.wrap (m_0.Locals.length : Int)]) ++ m_0.Locals) ++ [m_0.Result, 0]))) else none) else none) else none) else none)
theorem WB.ok {m_0 YD Yf YL} (r) (ho : WB.f m_0 = some r) : Ok Tryz.prog 125 [.agg #[YD, Yf, .int .u8 m_0.Result, .bool m_0.Reads, .int .i64 m_0.Fuel, .int .i64 m_0.Stack, .int .i64 m_0.Heap, YL]] [slP (kInt .u8) YD m_0.Args, slP (kInt .u8) Yf m_0.Locals, slP Za YL m_0.Code] fun v => HO.ex fun u0 : Value => HO.pand (v = .tuple #[u0, .int .i64 r.2]) (HO.seps [slO (kInt .u8) 5 u0 r.1]) := by
 refine oq 70 Tryz.func125 fun w hV see pb => ?_
 refine bx fun b4 => ?_
 refine kv XZ.ok ho fun t6 ho => ?_
 refine cb ho (fun ho => ?_) fun ho => ?_
 ·exact Option.some.inj ho ▸ rt (fun _ h => St.selO [0] rfl rfl (St.addO (slO.nil (kInt .u8) 5) h))
 refine li (kInt .u8) [IntKind.u8.wrap (m_0.Args.length : Int)] fun v8 => ?_
 refine ap 0 0 ho fun v10 ho => ?_
 refine dr ?_
 refine (DA.phase (fun i => Nat.ble 0 i && Nat.blt i 9) (fun w2 => St w em hV [slP (kInt .u8) YD m_0.Args, slP (kInt .u8) Yf m_0.Locals, slP Za YL m_0.Code] [boxO b4 [YD, Yf, .int .u8 m_0.Result, .bool m_0.Reads, .int .i64 m_0.Fuel, .int .i64 m_0.Stack, .int .i64 m_0.Heap, YL] 34] w2) ?_)
 refine ts 0 [1] ?_
 refine ts 1 [1] ?_
 refine ts 2 [1] ?_
 refine ts 3 [1] ?_
 refine ts 4 [1] ?_
 refine ts 7 [1] ?_
 refine ts 8 [1] ?_
 refine DT.one 5 rfl (by kernel_rfl) rfl ?_
 refine li (kInt .u8) [IntKind.u8.wrap (m_0.Locals.length : Int)] fun v20 => ?_
 refine QE.atT (fun w2 hw => (St.selO [2] rfl rfl hw)) ?_
 refine DT.one 6 rfl (by kernel_rfl) rfl ?_
 refine fz 0 ?_
 refine ap 0 0 ho fun v22 ho => ?_
 refine QE.atT (fun w2 hw => (St.selP [1, 2, 3] rfl (St.selO [1] rfl rfl hw))) ?_
 refine dn ?_
 refine d1 9 ?_
 refine ap 0 2 ho fun v24 ho => ?_
 refine d1 10 ?_
 refine dz ?_
 refine li (h := fun _ => id) (kInt .u8) [m_0.Result, 0] fun v26 => ?_
 refine fz 0 ?_
 refine ap (h := fun _ => id) 0 0 ho fun v28 ho => ?_
 refine go ?_
 refine oi r (fun z => ∃ l32 v33, z (WB.j1 m_0 l32) [(1, .pointer (some ⟨b4, 0, none⟩)), (4, v33)] [slO (kInt .u8) 5 v33 l32, boxO b4 [YD, Yf, .int .u8 m_0.Result, .bool m_0.Reads, .int .i64 m_0.Fuel, .int .i64 m_0.Stack, .int .i64 m_0.Heap, YL] 34]) ?_ ?_
 ·rintro _ _ ⟨l32, v33, ho, h⟩
  refine en h ?_
  refine bd [.int .i64 3, .int .i64 m_0.Fuel] ?_
  refine bd [.int .i64 2, .int .i64 m_0.Stack] ?_
  refine bd [.int .i64 2, .int .i64 m_0.Heap] ?_
  refine bd [.int .i64 3, .int .i64 m_0.Fuel, .int .i64 2, .int .i64 m_0.Stack, .int .i64 2, .int .i64 m_0.Heap] ?_
  refine CP.rounds 5 ?_
  refine LP.step ?_
  refine CP.seq ?_
  refine CP.region ?_
  refine cs (.bool true) ?_
  refine CP.condT rfl rfl (gg ?_)
  refine SP.val (Val.TG (c := [.int .i64 3, .int .i64 m_0.Fuel]) 0 Tryz.underlying241 Tryz.underlying240 rfl sz240.h rfl rfl rfl rfl) rfl rfl rfl ?_
  refine al fun b34 => ?_
  refine st 0 ?_
  refine k1 XO.ok ho fun t36 ho v37 => ?_
  refine ci ho (fun ho => ?_) fun ho => ?_
  ·exact Option.some.inj ho ▸ rt (fun _ h => St.selO [0] rfl rfl (St.addO (slO.nil (kInt .u8) 5) h))
  refine fz 0 ?_
  refine ap (h := fun _ => id) 1 0 ho fun v40 ho => ?_
  refine SP.val (Val.assign rfl) rfl rfl rfl ?_
  refine SP.nil ?_
  refine QE.blockN ?_
  refine QE.then ?_
  refine CP.region ?_
  refine cs (.int .i64 1) ?_
  refine QE.round ?_
  refine LP.step ?_
  refine CP.seq ?_
  refine CP.region ?_
  refine cs (.bool true) ?_
  refine CP.condT rfl rfl (gg ?_)
  refine SP.val (Val.TG (c := [.int .i64 2, .int .i64 m_0.Stack]) 1 Tryz.underlying241 Tryz.underlying240 rfl sz240.h rfl rfl rfl rfl) rfl rfl rfl ?_
  refine al fun b42 => ?_
  refine st 0 ?_
  refine k1 XO.ok ho fun t44 ho v45 => ?_
  refine ci ho (fun ho => ?_) fun ho => ?_
  ·exact Option.some.inj ho ▸ rt (fun _ h => St.selO [0] rfl rfl (St.addO (slO.nil (kInt .u8) 5) h))
  refine fz 0 ?_
  refine ap (h := fun _ => id) 2 0 ho fun v48 ho => ?_
  refine SP.val (Val.assign rfl) rfl rfl rfl ?_
  refine SP.nil ?_
  refine QE.blockN ?_
  refine QE.then ?_
  refine CP.region ?_
  refine cs (.int .i64 2) ?_
  refine QE.round ?_
  refine LP.step ?_
  refine CP.seq ?_
  refine CP.region ?_
  refine cs (.bool true) ?_
  refine CP.condT rfl rfl (gg ?_)
  refine SP.val (Val.TG (c := [.int .i64 2, .int .i64 m_0.Heap]) 2 Tryz.underlying241 Tryz.underlying240 rfl sz240.h rfl rfl rfl rfl) rfl rfl rfl ?_
  refine al fun b50 => ?_
  refine st 0 ?_
  refine k1 XO.ok ho fun t52 ho v53 => ?_
  refine ci ho (fun ho => ?_) fun ho => ?_
  ·exact Option.some.inj ho ▸ rt (fun _ h => St.selO [0] rfl rfl (St.addO (slO.nil (kInt .u8) 5) h))
  refine fz 0 ?_
  refine ap (h := fun _ => id) 3 0 ho fun v56 ho => ?_
  refine SP.val (Val.assign rfl) rfl rfl rfl ?_
  refine SP.nil ?_
  refine QE.blockN ?_
  refine QE.then ?_
  refine CP.region ?_
  refine cs (.int .i64 3) ?_
  refine QE.round ?_
  refine LP.step ?_
  refine CP.seq ?_
  refine CP.region ?_
  refine cs (.bool false) ?_
  refine CP.condF rfl rfl (gg ?_)
  exact Option.some.inj ho ▸ rt (sO [3])
 refine gg ?_
 refine cb ho (fun ho => ?_) fun ho => ?_
 ·obtain ⟨x31, J9, ho⟩ := YG ho
  refine SP.indexW (fun w2 hw => slO.whole (St.own 0 rfl see.sub see.dj hw)) Tryz.underlying31 sz5.h J9.1 J9.2 rfl rfl rfl rfl (fun p30 Z5d => ?_)
  refine SP.storeO (z0 := 1) (off := 0) (vs := [.int .u8 1]) see 0 rfl J9.2 Z5d rfl rfl sz5.h rfl (fun a cs _ e => by subst e; rfl) rfl rfl rfl (gg ?_)
  exact mo ho (fun _ z => ⟨((((([IntKind.u8.wrap (m_0.Args.length : Int)] ++ m_0.Args) ++ [IntKind.u8.wrap (m_0.Locals.length : Int)]) ++ m_0.Locals) ++ [m_0.Result, 0]).set (IntKind.i64.wrap (((((([IntKind.u8.wrap (m_0.Args.length : Int)] ++ m_0.Args) ++ [IntKind.u8.wrap (m_0.Locals.length : Int)]) ++ m_0.Locals) ++ [m_0.Result, 0]).length : Int) - 1)).toNat 1), v28, z⟩)
 exact mo ho (fun _ z => ⟨(((([IntKind.u8.wrap (m_0.Args.length : Int)] ++ m_0.Args) ++ [IntKind.u8.wrap (m_0.Locals.length : Int)]) ++ m_0.Locals) ++ [m_0.Result, 0]), v28, z⟩)
def Tj.f (Zg : Int) : Option Bool :=
  some (decide ((IntKind.i64.wrap Zg) < 33))
theorem Tj.ok {Zg} (r) (ho : Tj.f Zg = some r) : Ok Tryz.prog 188 [.int .u8 Zg] [] fun v => HO.pure (v = .bool r) := by
 refine oq 6 Tryz.func188 fun w hV see pb => ?_
 exact Option.some.inj ho ▸ rt
def V4.j3 (Zg : Int) (b3 : Bool) : Option Int :=
  if b3 = true then (some 5) else (if Zg = 30 then (some 6) else (if Zg = 32 then (some 7) else (if Zg = 28 then (some 8) else (some 0))))
def V4.j2 (Zg : Int) (b2 : Bool) : Option Int :=
  if b2 = true then (some 3) else (if Zg = 22 then (some 4) else (if Zg = 26 then (V4.j3 Zg (decide (Zg = 26))) else (if Zg = 27 then (V4.j3 Zg (decide (Zg = 27))) else (V4.j3 Zg (decide (Zg = 29))))))
def V4.j1 (Zg : Int) (b1 : Bool) : Option Int :=
  if b1 = true then (some 2) else (if Zg = 4 then (V4.j2 Zg (decide (Zg = 4))) else (V4.j2 Zg (decide (Zg = 5))))
def V4.f (Zg : Int) : Option Int :=
  if Zg = 1 then (some 1) else (if Zg = 2 then (V4.j1 Zg (decide (Zg = 2))) else (V4.j1 Zg (decide (Zg = 3))))
theorem V4.ok {Zg} (r) (ho : V4.f Zg = some r) : Ok Tryz.prog 189 [.int .u8 Zg] [] fun v => HO.pure (v = .int .i64 r) := by
 refine oq 24 Tryz.func189 fun w hV see pb => ?_
 refine ci (hf := id) ho (fun ho => ?_) fun ho => ?_
 ·exact Option.some.inj ho ▸ rt
 refine oi r (fun z => ∃ b1, z (V4.j1 Zg b1) [(3, .int .u8 Zg), (6, .bool b1)] []) ?_ ?_
 ·rintro _ _ ⟨b1, ho, h⟩
  refine en h ?_
  refine cb (hf := id) ho (fun ho => ?_) fun ho => ?_
  ·exact Option.some.inj ho ▸ rt
  refine oi r (fun z => ∃ b2, z (V4.j2 Zg b2) [(3, .int .u8 Zg), (9, .bool b2)] []) ?_ ?_
  ·rintro _ _ ⟨b2, ho, h⟩
   refine en h ?_
   refine cb ho (fun ho => ?_) fun ho => ?_
   ·exact Option.some.inj ho ▸ rt
   refine ci (hf := id) ho (fun ho => ?_) fun ho => ?_
   ·exact Option.some.inj ho ▸ rt
   refine oi r (fun z => ∃ b3, z (V4.j3 Zg b3) [(3, .int .u8 Zg), (14, .bool b3)] []) ?_ ?_
   ·rintro _ _ ⟨b3, ho, h⟩
    refine en h ?_
    refine cb ho (fun ho => ?_) fun ho => ?_
    ·exact Option.some.inj ho ▸ rt
    refine ci ho (fun ho => ?_) fun ho => ?_
    ·exact Option.some.inj ho ▸ rt
    refine ci ho (fun ho => ?_) fun ho => ?_
    ·exact Option.some.inj ho ▸ rt
    refine ci ho (fun ho => ?_) fun ho => ?_
    ·exact Option.some.inj ho ▸ rt
    exact Option.some.inj ho ▸ rt
   refine gg ?_
   refine ci ho (fun ho => ?_) fun ho => ?_
   ·exact mo ho (fun _ z => ⟨(decide (Zg = 26)), z⟩)
   refine ci ho (fun ho => ?_) fun ho => ?_
   ·exact mo ho (fun _ z => ⟨(decide (Zg = 27)), z⟩)
   exact mo ho (fun _ z => ⟨(decide (Zg = 29)), z⟩)
  refine gg ?_
  refine ci ho (fun ho => ?_) fun ho => ?_
  ·exact mo ho (fun _ z => ⟨(decide (Zg = 4)), z⟩)
  exact mo ho (fun _ z => ⟨(decide (Zg = 5)), z⟩)
 refine gg ?_
 refine ci ho (fun ho => ?_) fun ho => ?_
 ·exact mo ho (fun _ z => ⟨(decide (Zg = 2)), z⟩)
 exact mo ho (fun _ z => ⟨(decide (Zg = 3)), z⟩)
def Wm.f (Zg : Int) : Option (Int × Int) :=
  (Tj.f Zg).bind fun t1 => if (!t1) = true then (some (0, (-1))) else ((V4.f Zg).bind fun t2 => (elt tab0 t2).bind fun x5 => some (x5.e0, x5.e1))
theorem Wm.ok {Zg} (r) (ho : Wm.f Zg = some r) : Ok Tryz.prog 129 [.int .u8 Zg] [arrP ZV 0 tab0] fun v => HO.pure (v = .tuple #[.int .i64 r.1, .int .i64 r.2]) := by
 refine oq 16 Tryz.func129 fun w hV see pb => ?_
 refine kv Tj.ok ho fun t1 ho => ?_
 refine cb ho (fun ho => ?_) fun ho => ?_
 ·exact Option.some.inj ho ▸ rt
 refine kv V4.ok ho fun t2 ho => ?_
 obtain ⟨x5, hx, ho⟩ := YG ho
 refine SP.indexG see 0 rfl Tryz.underlying246 rfl sz245.h hx.1 hx.2 rfl rfl rfl rfl (fun p3 => ?_)
 clear hx
 refine ld 0 ?_
 refine al fun b6 => ?_
 refine st 0 ?_
 refine dr ?_
 refine DA.ph 0 5 ?_
 refine DT.tv 0 rfl (Val.indexC (off2 := 0) Tryz.underlying245 sz3.h (by decide) rfl rfl rfl) ?_
 refine DT.tk 1 ?_
 refine DT.tv 2 rfl (Val.indexC (off2 := 1) Tryz.underlying245 sz3.h (by decide) rfl rfl rfl) ?_
 refine DT.tk 3 ?_
 refine DT.tk 4 ?_
 refine dn ?_
 refine d1 5 ?_
 refine dz ?_
 exact Option.some.inj ho ▸ rt
def KO.f (i_0 : Z7) : Option Bool :=
  (Wm.f i_0.Op).bind fun t3 => some (((decide (i_0.A ≥ t3.1)) && (decide (i_0.A ≤ t3.2))) && (decide (i_0.B = 0)))
theorem KO.ok {i_0} (r) (ho : KO.f i_0 = some r) : Ok Tryz.prog 68 [.agg #[.int .u8 i_0.Op, .int .i64 i_0.A, .int .i64 i_0.B]] [arrP ZV 0 tab0] fun v => HO.pure (v = .bool r) := by
 refine oq 26 Tryz.func68 fun w hV see pb => ?_
 refine bx fun b1 => ?_
 refine kv Wm.ok ho fun t3 ho => ?_
 refine SP.jn 5 [1] 20 (.bool ((decide (i_0.A ≥ t3.1)) && (decide (i_0.A ≤ t3.2)))) ?_ ?_
 ·refine gg ?_
  refine SP.jn 4 [] 25 (.bool (((decide (i_0.A ≥ t3.1)) && (decide (i_0.A ≤ t3.2))) && (decide (i_0.B = 0)))) ?_ ?_
  ·refine gg ?_
   exact Option.some.inj ho ▸ rt
  refine bb 21 (fun hq7 => ?_) fun hq7 => ?_
  ·exact jb (XT hq7 rfl)
  exact jb (XU hq7)
 refine bb 15 (fun hq5 => ?_) fun hq5 => ?_
 ·exact jb (XT hq5 rfl)
 exact jb (XU hq5)
def Ki.f (i_0 : Z7) : Option Bool :=
  (KO.f i_0).bind fun t3 => some (!t3)
theorem Ki.ok {i_0} (r) (ho : Ki.f i_0 = some r) : Ok Tryz.prog 235 [.agg #[.int .u8 i_0.Op, .int .i64 i_0.A, .int .i64 i_0.B]] [arrP ZV 0 tab0] fun v => HO.pure (v = .bool r) := by
 refine oq 6 Tryz.func235 fun w hV see pb => ?_
 refine bx fun b1 => ?_
 refine kv KO.ok ho fun t3 ho => ?_
 exact Option.some.inj ho ▸ rt
inductive ZN.S where
  | start
  | l1 (x7 : Int)
def ZN.F (s_0 : List Z7) : ZN.S → Option (ZN.S ⊕ Int)
  | .start => some (.inl (.l1 0))
  | .l1 x7 => if x7 < (s_0.length : Int) then ((elt s_0 x7).bind fun x11 => (Ki.f x11).bind fun t12 => if t12 = true then (some (.inr x7)) else (some (.inl (.l1 (IntKind.i64.wrap (x7 + 1)))))) else (some (.inr (-1)))
def ZN.f (s_0 : List Z7) : Option Int := runF (ZN.F s_0) .start
theorem ZN.ok {s_0 Yz} (r) (H : ZN.f s_0 = some r) : Ok Tryz.prog 128 [Yz, .func (.func 235) #[] #[]] [slP Za Yz s_0, arrP ZV 0 tab0] fun v => HO.pure (v = .int .i64 r) := by
 refine oq 19 Tryz.func128 fun w hV see pb => ?_
 obtain ⟨m0, o, ho, hr⟩ := rn H
 refine lo ho hr (fun z => ∃ x7, z (.l1 x7) [(0, Yz), (1, .func (.func 235) #[] #[]), (7, .int .i64 (s_0.length : Int)), (8, .int .i64 x7)] []) (fun _ z => ⟨0, z⟩) ?_
 rintro _ _ _ ⟨x7, m8, o, _, _, ho, hr, h⟩
 refine en h ?_
 refine ci ho (fun ho => ?_) fun ho => ?_
 ·refine ip 0 ho fun x11 ho p9 => ?_
  refine ld 0 ?_
  refine kv Ki.ok ho fun t12 ho => ?_
  refine cb ho (fun ho => ?_) fun ho => ?_
  ·exact fin ho hr ▸ rt
  exact lw ho hr (fun _ z => ⟨(IntKind.i64.wrap (x7 + 1)), z⟩)
 exact fin ho hr ▸ rt
def Xv.f (s_0 : List Z7) : Option Bool :=
  (ZN.f s_0).bind fun t2 => some (decide (t2 ≥ 0))
theorem Xv.ok {s_0 Yz} (r) (ho : Xv.f s_0 = some r) : Ok Tryz.prog 66 [Yz, .func (.func 235) #[] #[]] [slP Za Yz s_0, arrP ZV 0 tab0] fun v => HO.pure (v = .bool r) := by
 refine oq 9 Tryz.func66 fun w hV see pb => ?_
 refine kv ZN.ok ho fun t2 ho => ?_
 exact Option.some.inj ho ▸ rt
def KD.f (l_0 : List Z7) : Option Bool :=
  (if ((decide ((l_0.length : Int) > 0)) && (decide ((l_0.length : Int) ≤ 200))) = true then ((Xv.f l_0).bind fun t6 => some (!t6)) else (some false)).bind fun t7 => some t7
theorem KD.ok {l_0 Y2} (r) (ho : KD.f l_0 = some r) : Ok Tryz.prog 185 [Y2] [slP Za Y2 l_0, arrP ZV 0 tab0] fun v => HO.pure (v = .bool r) := by
 refine oq 16 Tryz.func185 fun w hV see pb => ?_
 refine SP.jn 4 [0] 10 (.bool ((decide ((l_0.length : Int) > 0)) && (decide ((l_0.length : Int) ≤ 200)))) ?_ ?_
 ·refine gg ?_
  obtain ⟨t7, Z1H, ho⟩ := bind_some ho
  refine SP.jn 4 [] 15 (.bool t7) ?_ ?_
  ·clear Z1H
   refine gg ?_
   exact Option.some.inj ho ▸ rt
  refine bc 11 Z1H (fun hq5 ho => ?_) fun hq5 ho => ?_
  ·refine kv Xv.ok ho fun t6 ho => ?_
   obtain rfl := Option.some.inj ho
   exact jn
  obtain rfl := Option.some.inj ho
  exact jn
 refine bb 6 (fun hq3 => ?_) fun hq3 => ?_
 ·exact jb (XT hq3 rfl)
 exact jb (XU hq3)
def K4.f (n_0 : Int) : Option Bool :=
  (Wm.f n_0).bind fun t1 => some (decide (t1.2 > 0))
theorem K4.ok {n_0} (r) (ho : K4.f n_0 = some r) : Ok Tryz.prog 186 [.int .u8 n_0] [arrP ZV 0 tab0] fun v => HO.pure (v = .bool r) := by
 refine oq 12 Tryz.func186 fun w hV see pb => ?_
 refine kv Wm.ok ho fun t1 ho => ?_
 exact Option.some.inj ho ▸ rt
inductive Xm.S where
  | start
  | l1 (l28 : List Int) (x30 : Int)
def Xm.j1 (l_0 : List Z7) (x30 : Int) (l49 : List Int) : Option (Xm.S ⊕ ((List Int) × Int)) :=
  some (.inl (.l1 l49 (IntKind.i64.wrap (x30 + 1))))
def Xm.F (l_0 : List Z7) : Xm.S → Option (Xm.S ⊕ ((List Int) × Int))
  | .start => (KD.f l_0).bind fun t2 => if (!t2) = true then (some (.inr ([], 40))) else (some (.inl (.l1 [IntKind.u8.wrap (l_0.length : Int)] 0)))
  | .l1 l28 x30 => if x30 < (l_0.length : Int) then ((elt l_0 x30).bind fun x34 => if (l28.length + [x34.Op].length) * 1 ≤ 140737488355328 then ((K4.f x34.Op).bind fun t41 => if (!t41) = true then (Xm.j1 l_0 x30 (l28 ++ [x34.Op])) else ((XO.f 2 x34.A).bind fun t42 => if t42.2 ≠ 0 then (some (.inr ([], 40))) else (if ((l28 ++ [x34.Op]).length + t42.1.length) * 1 ≤ 140737488355328 then (Xm.j1 l_0 x30 ((l28 ++ [x34.Op]) ++ t42.1)) else none))) else none) else (some (.inr (l28, 0)))
def Xm.f (l_0 : List Z7) : Option ((List Int) × Int) := runF (Xm.F l_0) .start
theorem Xm.ok {l_0 Y2} (r) (H : Xm.f l_0 = some r) : Ok Tryz.prog 126 [Y2] [slP Za Y2 l_0, arrP ZV 0 tab0] fun v => HO.ex fun u0 : Value => HO.pand (v = .tuple #[u0, .int .i64 r.2]) (HO.seps [slO (kInt .u8) 5 u0 r.1]) := by
 refine oq 44 Tryz.func126 fun w hV see pb => ?_
 obtain ⟨m0, o, ho, hr⟩ := rn H
 refine kv KD.ok ho fun t2 ho => ?_
 refine cb ho (fun ho => ?_) fun ho => ?_
 ·exact fin ho hr ▸ rt (fun _ h => St.selO [0] rfl rfl (St.addO (slO.nil (kInt .u8) 5) h))
 refine li (kInt .u8) [IntKind.u8.wrap (l_0.length : Int)] fun v4 => ?_
 refine lo ho hr (fun z => ∃ l28 x30 v29, z (.l1 l28 x30) [(4, v29), (16, Y2), (17, .int .i64 (l_0.length : Int)), (18, .int .i64 x30)] [slO (kInt .u8) 5 v29 l28]) (fun _ z => ⟨[IntKind.u8.wrap (l_0.length : Int)], 0, v4, z⟩) ?_
 rintro _ _ _ ⟨l28, x30, v29, m31, o, _, _, ho, hr, h⟩
 refine en h ?_
 refine ci (ht := id) ho (fun ho => ?_) fun ho => ?_
 ·refine go ?_
  refine ji hr (fun z => ∃ l49 v50, z (Xm.j1 l_0 x30 l49) [(4, v50), (16, Y2), (17, .int .i64 (l_0.length : Int)), (18, .int .i64 x30)] [slO (kInt .u8) 5 v50 l49]) ?_ ?_
  ·rintro _ _ ⟨l49, v50, m51, o, _, ho, hr, h⟩
   refine en h ?_
   exact lw ho hr (fun _ z => ⟨l49, (IntKind.i64.wrap (x30 + 1)), v50, z⟩)
  refine gg ?_
  refine ip 0 ho fun x34 ho p32 => ?_
  refine ld 0 ?_
  refine al fun b35 => ?_
  refine st 0 ?_
  refine li (h := fun _ => id) (kInt .u8) [x34.Op] fun v37 => ?_
  refine fz 0 ?_
  refine ap 1 0 ho fun v39 ho => ?_
  refine kv K4.ok ho fun t41 ho => ?_
  refine cb ho (fun ho => ?_) fun ho => ?_
  ·exact mi ho hr (fun _ z => ⟨(l28 ++ [x34.Op]), v39, z⟩) (sO [1])
  refine k1 XO.ok ho fun t42 ho v43 => ?_
  refine ci ho (fun ho => ?_) fun ho => ?_
  ·exact fin ho hr ▸ rt (fun _ h => St.selO [0] rfl rfl (St.addO (slO.nil (kInt .u8) 5) h))
  refine fz 0 ?_
  refine ap 1 0 ho fun v46 ho => ?_
  exact mi ho hr (fun _ z => ⟨((l28 ++ [x34.Op]) ++ t42.1), v46, z⟩) (sO [1])
 exact fin ho hr ▸ rt (sO [0])
inductive X4.S where
  | start
  | l1 (l2277 : List Int) (x2279 : Int)
def X4.j1 (m_0 : Z9) (l2277 : List Int) (x2304 : Int) : Option (X4.S ⊕ ((List Int) × Int)) :=
  if (l2277.length + [x2304].length) * 1 ≤ 140737488355328 then (some (.inr (l2277 ++ [x2304], 0))) else none
def X4.F (m_0 : Z9) : X4.S → Option (X4.S ⊕ ((List Int) × Int))
  | .start => if ((((decide ((m_0.Zj.length : Int) > 4)) || (decide ((m_0.Methods.length : Int) > 16))) || (decide (m_0.Zd < (-1)))) || (decide (m_0.Zd ≥ (m_0.Methods.length : Int)))) = true then (some (.inr ([], 80))) else ((XV.f m_0.Zj).bind fun t13 => if t13.2 ≠ 0 then (some (.inr ([], t13.2))) else ((XV.f m_0.Pool).bind fun t17 => if t17.2 ≠ 0 then (some (.inr ([], t17.2))) else (if (t13.1.length + t17.1.length) * 1 ≤ 140737488355328 then (if ((t13.1 ++ t17.1).length + [IntKind.u8.wrap (m_0.Methods.length : Int)].length) * 1 ≤ 140737488355328 then (some (.inl (.l1 ((t13.1 ++ t17.1) ++ [IntKind.u8.wrap (m_0.Methods.length : Int)]) 0))) else none) else none)))
  | .l1 l2277 x2279 => if x2279 < (m_0.Methods.length : Int) then ((elt m_0.Methods x2279).bind fun x2283 => (WB.f x2283).bind fun t2292 => if t2292.2 ≠ 0 then (some (.inr ([], t2292.2))) else ((Xm.f x2283.Code).bind fun t2296 => if t2296.2 ≠ 0 then (some (.inr ([], t2296.2))) else (if (l2277.length + t2292.1.length) * 1 ≤ 140737488355328 then (if ((l2277 ++ t2292.1).length + t2296.1.length) * 1 ≤ 140737488355328 then (some (.inl (.l1 ((l2277 ++ t2292.1) ++ t2296.1) (IntKind.i64.wrap (x2279 + 1))))) else none) else none))) else (if m_0.Zd ≥ 0 then (X4.j1 m_0 l2277 (IntKind.u8.wrap m_0.Zd)) else (X4.j1 m_0 l2277 255))
def X4.f (m_0 : Z9) : Option ((List Int) × Int) := runF (X4.F m_0) .start
theorem X4.ok {m_0 Z4 Z6 Z0} (r) (H : X4.f m_0 = some r) : Ok Tryz.prog 61 [.agg #[Z4, Z6, Z0, .int .i64 m_0.Zd]] [slP Z5 Z4 m_0.Zj, slP Z5 Z6 m_0.Pool, slP Z8 Z0 m_0.Methods, arrP ZV 0 tab0] fun v => HO.ex fun u0 : Value => HO.pand (v = .tuple #[u0, .int .i64 r.2]) (HO.seps [slO (kInt .u8) 5 u0 r.1]) := by
 refine oq 103 Tryz.func61 fun w hV see pb => ?_
 obtain ⟨m0, o, ho, hr⟩ := rn H
 refine bx fun b4 => ?_
 refine SP.jn 5 [1] 22 (.bool ((decide ((m_0.Zj.length : Int) > 4)) || (decide ((m_0.Methods.length : Int) > 16)))) ?_ ?_
 ·refine gg ?_
  refine SP.jn 4 [1] 27 (.bool (((decide ((m_0.Zj.length : Int) > 4)) || (decide ((m_0.Methods.length : Int) > 16))) || (decide (m_0.Zd < (-1))))) ?_ ?_
  ·refine gg ?_
   refine SP.jn 7 [1] 35 (.bool ((((decide ((m_0.Zj.length : Int) > 4)) || (decide ((m_0.Methods.length : Int) > 16))) || (decide (m_0.Zd < (-1)))) || (decide (m_0.Zd ≥ (m_0.Methods.length : Int))))) ?_ ?_
   ·refine gg ?_
    refine cb ho (fun ho => ?_) fun ho => ?_
    ·exact fin ho hr ▸ rt (fun _ h => St.selO [0] rfl rfl (St.addO (slO.nil (kInt .u8) 5) h))
    refine k1 XV.ok ho fun t13 ho v14 => ?_
    refine ci ho (fun ho => ?_) fun ho => ?_
    ·exact fin ho hr ▸ rt (fun _ h => St.selO [0] rfl rfl (St.addO (slO.nil (kInt .u8) 5) h))
    refine k1 XV.ok ho fun t17 ho v18 => ?_
    refine ci ho (fun ho => ?_) fun ho => ?_
    ·exact fin ho hr ▸ rt (fun _ h => St.selO [0] rfl rfl (St.addO (slO.nil (kInt .u8) 5) h))
    refine dr ?_
    refine (DA.phase (fun i => Nat.ble 0 i && Nat.blt i 8) (fun w2 => St w em hV [slP Z5 Z4 m_0.Zj, slP Z5 Z6 m_0.Pool, slP Z8 Z0 m_0.Methods, arrP ZV 0 tab0] [boxO b4 [Z4, Z6, Z0, .int .i64 m_0.Zd] 25] w2) ?_)
    refine ts 0 [2] ?_
    refine ts 1 [2] ?_
    refine ts 3 [2] ?_
    refine ts 4 [2] ?_
    refine ts 5 [2] ?_
    refine ts 6 [2] ?_
    obtain ⟨Z5J, ho⟩ := X6 ho
    refine DT.list (l2 := #[true, true, false, true, true, true, true, false, false, false]) (by kernel_rfl) ?_
    refine DT.cut (ι := Value × Value) (fun z => [(1, .pointer (some ⟨b4, 0, none⟩)), (4, v14), (56, z.1), (61, z.2)]) (fun z w2 => St w em hV [slP (kInt .u8) v18 t17.1, slP Z5 Z4 m_0.Zj, slP Z5 Z6 m_0.Pool, slP Z8 Z0 m_0.Methods, arrP ZV 0 tab0] [slO (kInt .u8) 5 z.2 [IntKind.u8.wrap (m_0.Methods.length : Int)], slO (kInt .u8) 5 z.1 (t13.1 ++ t17.1), boxO b4 [Z4, Z6, Z0, .int .i64 m_0.Zd] 25] w2) 2 #[true, true, true, true, true, true, true, true, false, false] (fun z => ?_) (fun J2243 => ?_)
    ·obtain ⟨v627, v1627⟩ := z
     refine dn ?_
     refine d1 (h := id) 8 ?_
     refine fz 0 ?_
     refine ap 0 0 ho fun v2244 ho => ?_
     refine d1 9 ?_
     refine dz ?_
     refine lo ho hr (fun z => ∃ l2277 x2279 v2278, z (.l1 l2277 x2279) [(1, .pointer (some ⟨b4, 0, none⟩)), (4, v2278), (64, Z0), (65, .int .i64 (m_0.Methods.length : Int)), (66, .int .i64 x2279)] [slO (kInt .u8) 5 v2278 l2277, boxO b4 [Z4, Z6, Z0, .int .i64 m_0.Zd] 25]) (fun _ z => ⟨((t13.1 ++ t17.1) ++ [IntKind.u8.wrap (m_0.Methods.length : Int)]), 0, v2244, z⟩) ?_
     rintro _ _ _ ⟨l2277, x2279, v2278, m2280, o, _, _, ho, hr, h⟩
     refine en h ?_
     refine ci (hf := id) ho (fun ho => ?_) fun ho => ?_
     ·refine ip 2 ho fun x2283 ho p2281 => ?_
      refine Z8.load see 0 rfl Tryz.underlying34 rfl sz34.h rfl rfl rfl (fun v2284 v2286 v2288 => ?_)
      refine al (h := fun _ => id) fun b2290 => ?_
      refine sp (h := id) 0 fun Zag => ?_
      refine sp (h := id) 1 fun Zah => ?_
      refine sp 2 fun Zai => ?_
      refine st 0 ?_
      refine k1 WB.ok ho fun t2292 ho v2293 => ?_
      refine ci ho (fun ho => ?_) fun ho => ?_
      ·exact fin ho hr ▸ rt (fun _ h => St.selO [0] rfl rfl (St.addO (slO.nil (kInt .u8) 5) h))
      refine k1 Xm.ok ho fun t2296 ho v2297 => ?_
      refine ci ho (fun ho => ?_) fun ho => ?_
      ·exact fin ho hr ▸ rt (fun _ h => St.selO [0] rfl rfl (St.addO (slO.nil (kInt .u8) 5) h))
      refine fz 1 ?_
      refine ap 2 0 ho fun v2300 ho => ?_
      refine fz 0 ?_
      refine ap 1 0 ho fun v2302 ho => ?_
      exact lw ho hr (fun _ z => ⟨((l2277 ++ t2292.1) ++ t2296.1), (IntKind.i64.wrap (x2279 + 1)), v2302, z⟩) (sO [1, 2])
     refine go ?_
     refine ji hr (fun z => ∃ x2304, z (X4.j1 m_0 l2277 x2304) [(4, v2278), (12, .int .u8 x2304)] [slO (kInt .u8) 5 v2278 l2277]) ?_ ?_ (hb := pe [arrP ZV 0 tab0])
     ·rintro _ _ ⟨x2304, m2305, o, _, ho, hr, h⟩
      refine en h ?_
      refine li (h := fun _ => id) (kInt .u8) [x2304] fun v2306 => ?_
      refine fz 0 ?_
      refine ap 0 0 ho fun v2308 ho => ?_
      exact fin ho hr ▸ rt (sO [0])
     refine gg ?_
     refine ci ho (fun ho => ?_) fun ho => ?_
     ·exact mi ho hr (fun _ z => ⟨(IntKind.u8.wrap m_0.Zd), z⟩) (sO [0])
     exact mi ho hr (fun _ z => ⟨255, z⟩) (sO [0])
    refine DT.cut (ι := Value) (fun z => [(1, .pointer (some ⟨b4, 0, none⟩)), (4, v14), (56, z), (60, .int .u8 (IntKind.u8.wrap (m_0.Methods.length : Int)))]) (fun z w2 => St w em hV [slP (kInt .u8) v18 t17.1, slP Z5 Z4 m_0.Zj, slP Z5 Z6 m_0.Pool, slP Z8 Z0 m_0.Methods, arrP ZV 0 tab0] [slO (kInt .u8) 5 z (t13.1 ++ t17.1), boxO b4 [Z4, Z6, Z0, .int .i64 m_0.Zd] 25] w2) 3 #[true, true, true, true, true, true, true, false, false, false] (fun z => ?_) (fun J2314 => ?_)
    ·rename Value => v627
     refine DT.one 7 rfl (by kernel_rfl) rfl ?_
     refine li (kInt .u8) [IntKind.u8.wrap (m_0.Methods.length : Int)] fun v1627 => ?_
     refine QE.atT (fun w2 hw => (St.selP [1, 2, 3, 4] rfl (St.selO [2] rfl rfl hw))) ?_
     refine DT.list (l2 := #[true, true, true, true, true, true, true, true, false, false]) (by kernel_rfl) ?_
     exact DT.weak (by exact ⟨rfl, rfl, rfl, rfl, trivial⟩) (by exact fun w2 hw => hw) (J2243 (v627, v1627))
    refine DT.cut (ι := Value) (fun z => [(1, .pointer (some ⟨b4, 0, none⟩)), (4, v14), (54, v14), (55, v18), (61, z)]) (fun z w2 => St w em hV [slP Z5 Z4 m_0.Zj, slP Z5 Z6 m_0.Pool, slP Z8 Z0 m_0.Methods, arrP ZV 0 tab0] [slO (kInt .u8) 5 z [IntKind.u8.wrap (m_0.Methods.length : Int)], slO (kInt .u8) 5 v18 t17.1, slO (kInt .u8) 5 v14 t13.1, boxO b4 [Z4, Z6, Z0, .int .i64 m_0.Zd] 25] w2) 3 #[true, true, false, true, true, true, true, true, false, false] (fun z => ?_) (fun J2315 => ?_)
    ·rename Value => v1627
     refine DT.one 2 rfl (by kernel_rfl) rfl ?_
     refine fz 1 ?_
     refine SP.append see 1 rfl 0 rfl Tryz.underlying31 inf5.h rfl rfl Z5J rfl rfl rfl rfl rfl (fun v627 => gg ?_)
     refine QE.atT (fun w2 hw => (St.selP [1, 2, 3, 4] rfl (St.selO [2] rfl rfl hw))) ?_
     refine DT.list (l2 := #[true, true, true, true, true, true, true, true, false, false]) (by kernel_rfl) ?_
     exact DT.weak (by exact ⟨rfl, rfl, rfl, rfl, trivial⟩) (by exact fun w2 hw => hw) (J2243 (v627, v1627))
    refine DT.any 2 [7] (by kernel_rfl) ⟨⟨_, rfl, rfl, ?_⟩, ⟨_, rfl, rfl, ?_⟩, trivial⟩
    ·refine fz 0 ?_
     refine SP.append see 0 rfl 0 rfl Tryz.underlying31 inf5.h rfl rfl Z5J rfl rfl rfl rfl rfl (fun v627 => gg ?_)
     refine QE.atT (fun w2 hw => (St.selP [1, 2, 3, 4] rfl (St.selO [1] rfl rfl hw))) ?_
     refine DT.list (l2 := #[true, true, true, true, true, true, true, false, false, false]) (by kernel_rfl) ?_
     exact DT.weak (by exact ⟨rfl, rfl, rfl, rfl, trivial⟩) (by exact fun w2 hw => hw) (J2314 v627)
    refine li (kInt .u8) [IntKind.u8.wrap (m_0.Methods.length : Int)] fun v1627 => ?_
    refine QE.atT (fun w2 hw => (St.selO [3] rfl rfl hw)) ?_
    refine DT.list (l2 := #[true, true, false, true, true, true, true, true, false, false]) (by kernel_rfl) ?_
    exact DT.weak (by exact ⟨rfl, rfl, rfl, rfl, rfl, trivial⟩) (by exact fun w2 hw => hw) (J2315 v1627)
   refine bb 28 (fun hq11 => ?_) fun hq11 => ?_
   ·exact jb (WL hq11)
   exact jb (WM hq11 rfl)
  refine bb 23 (fun hq9 => ?_) fun hq9 => ?_
  ·exact jb (WL hq9)
  exact jb (WM hq9 rfl)
 refine bb 17 (fun hq7 => ?_) fun hq7 => ?_
 ·exact jb (WL hq7)
 exact jb (WM hq7 rfl)
def Uq.f (m_0 : Z9) : Option ((List Int) × Int) :=
  (X4.f m_0).bind fun t6 => if t6.2 ≠ 0 then (some ([], t6.2)) else (if (t6.1.length : Int) > 2000 then (some ([], 3)) else (some (t6.1, 0)))
theorem Uq.ok {m_0 Z4 Z6 Z0} (r) (ho : Uq.f m_0 = some r) : Ok Tryz.prog 31 [.agg #[Z4, Z6, Z0, .int .i64 m_0.Zd]] [slP Z5 Z4 m_0.Zj, slP Z5 Z6 m_0.Pool, slP Z8 Z0 m_0.Methods, arrP ZV 0 tab0] fun v => HO.ex fun u0 : Value => HO.pand (v = .tuple #[u0, .int .i64 r.2]) (HO.seps [slO (kInt .u8) 5 u0 r.1]) := by
 refine oq 20 Tryz.func31 fun w hV see pb => ?_
 refine bx fun b4 => ?_
 refine k1 X4.ok ho fun t6 ho v7 => ?_
 refine ci ho (fun ho => ?_) fun ho => ?_
 ·exact Option.some.inj ho ▸ rt (fun _ h => St.selO [0] rfl rfl (St.addO (slO.nil (kInt .u8) 5) h))
 refine ci ho (fun ho => ?_) fun ho => ?_
 ·exact Option.some.inj ho ▸ rt (fun _ h => St.selO [0] rfl rfl (St.addO (slO.nil (kInt .u8) 5) h))
 exact Option.some.inj ho ▸ rt (sO [0])
def TJ.f (m_0 : Z9) : Option Int :=
  (Uq.f m_0).bind fun t6 => some t6.2
theorem TJ.ok {m_0 Z4 Z6 Z0} (r) (ho : TJ.f m_0 = some r) : Ok Tryz.prog 10 [.agg #[Z4, Z6, Z0, .int .i64 m_0.Zd]] [slP Z5 Z4 m_0.Zj, slP Z5 Z6 m_0.Pool, slP Z8 Z0 m_0.Methods, arrP ZV 0 tab0] fun v => HO.pure (v = .int .i64 r) := by
 refine oq 11 Tryz.func10 fun w hV see pb => ?_
 refine bx fun b4 => ?_
 refine k1 Uq.ok ho fun t6 ho v7 => ?_
 exact Option.some.inj ho ▸ rt
inductive YH.S where
  | start
  | l1 (x6 : Int)
def YH.F (s_0 : List Int) (v_1 : Int) : YH.S → Option (YH.S ⊕ Int)
  | .start => some (.inl (.l1 0))
  | .l1 x6 => if x6 < (s_0.length : Int) then ((elt s_0 x6).bind fun x10 => if v_1 = x10 then (some (.inr x6)) else (some (.inl (.l1 (IntKind.i64.wrap (x6 + 1)))))) else (some (.inr (-1)))
def YH.f (s_0 : List Int) (v_1 : Int) : Option Int := runF (YH.F s_0 v_1) .start
theorem YH.ok {s_0 v_1 Yz} (r) (H : YH.f s_0 v_1 = some r) : Ok Tryz.prog 65 [Yz, .int .u8 v_1] [slP (kInt .u8) Yz s_0] fun v => HO.pure (v = .int .i64 r) := by
 refine oq 19 Tryz.func65 fun w hV see pb => ?_
 obtain ⟨m0, o, ho, hr⟩ := rn H
 refine lo ho hr (fun z => ∃ x6, z (.l1 x6) [(0, Yz), (1, .int .u8 v_1), (7, .int .i64 (s_0.length : Int)), (8, .int .i64 x6)] []) (fun _ z => ⟨0, z⟩) ?_
 rintro _ _ _ ⟨x6, m7, o, _, _, ho, hr, h⟩
 refine en h ?_
 refine ci ho (fun ho => ?_) fun ho => ?_
 ·refine ip 0 ho fun x10 ho p8 => ?_
  refine SP.val (Val.loadP1 see 0 rfl (fun _ _ e => e) Tryz.underlying5 rfl rfl) rfl rfl rfl (gg ?_)
  refine ci ho (fun ho => ?_) fun ho => ?_
  ·exact fin ho hr ▸ rt
  exact lw ho hr (fun _ z => ⟨(IntKind.i64.wrap (x6 + 1)), z⟩)
 exact fin ho hr ▸ rt
def Wh.f (s_0 : List Int) (v_1 : Int) : Option Bool :=
  (YH.f s_0 v_1).bind fun t2 => some (decide (t2 ≥ 0))
theorem Wh.ok {s_0 v_1 Yz} (r) (ho : Wh.f s_0 v_1 = some r) : Ok Tryz.prog 33 [Yz, .int .u8 v_1] [slP (kInt .u8) Yz s_0] fun v => HO.pure (v = .bool r) := by
 refine oq 9 Tryz.func33 fun w hV see pb => ?_
 refine kv YH.ok ho fun t2 ho => ?_
 exact Option.some.inj ho ▸ rt
def VL.f (m_0 : Zb) : Option Bool :=
  (XZ.f m_0).bind fun t6 => (if t6 = true then ((Wh.f m_0.Args 3).bind fun t9 => some (!t9)) else (some false)).bind fun t10 => some t10
theorem VL.ok {m_0 YD Yf YL} (r) (ho : VL.f m_0 = some r) : Ok Tryz.prog 11 [.agg #[YD, Yf, .int .u8 m_0.Result, .bool m_0.Reads, .int .i64 m_0.Fuel, .int .i64 m_0.Stack, .int .i64 m_0.Heap, YL]] [slP (kInt .u8) YD m_0.Args, slP (kInt .u8) Yf m_0.Locals, slP Za YL m_0.Code] fun v => HO.pure (v = .bool r) := by
 refine oq 11 Tryz.func11 fun w hV see pb => ?_
 refine bx fun b4 => ?_
 refine kv XZ.ok ho fun t6 ho => ?_
 obtain ⟨t10, Z0a, ho⟩ := bind_some ho
 refine SP.jn 5 [] 10 (.bool t10) ?_ ?_
 ·clear Z0a
  refine gg ?_
  exact Option.some.inj ho ▸ rt
 refine bc 5 Z0a (fun hq8 ho => ?_) fun hq8 ho => ?_
 ·refine kv Wh.ok ho fun t9 ho => ?_
  obtain rfl := Option.some.inj ho
  exact jn
 obtain rfl := Option.some.inj ho
 exact jn
def Ur.f (m_0 : Z9) : Option Int :=
  (if m_0.Zd ≥ 0 then ((elt m_0.Methods m_0.Zd).bind fun x10 => (VL.f x10).bind fun t17 => some (!t17)) else (some false)).bind fun t18 => if t18 = true then (some 70) else (some 0)
theorem Ur.ok {m_0 Z4 Z6 Z0} (r) (ho : Ur.f m_0 = some r) : Ok Tryz.prog 142 [.agg #[Z4, Z6, Z0, .int .i64 m_0.Zd]] [slP Z5 Z4 m_0.Zj, slP Z5 Z6 m_0.Pool, slP Z8 Z0 m_0.Methods] fun v => HO.pure (v = .int .i64 r) := by
 refine oq 16 Tryz.func142 fun w hV see pb => ?_
 refine bx fun b4 => ?_
 obtain ⟨t18, Z0f, ho⟩ := bind_some ho
 refine SP.jn 9 [] 15 (.bool t18) ?_ ?_
 ·clear Z0f
  refine gg ?_
  refine cb ho (fun ho => ?_) fun ho => ?_
  ·exact Option.some.inj ho ▸ rt
  exact Option.some.inj ho ▸ rt
 refine bi 6 Z0f (fun hq7 ho => ?_) fun hq7 ho => ?_
 ·refine ip 2 ho fun x10 ho p8 => ?_
  refine Z8.load see 0 rfl Tryz.underlying34 rfl sz34.h rfl rfl rfl (fun v11 v13 v15 => ?_)
  refine kv VL.ok ho fun t17 ho => ?_
  obtain rfl := Option.some.inj ho
  exact QE.jn fun w2 hw => (St.selP [4, 5, 6] rfl hw)
 obtain rfl := Option.some.inj ho
 exact jn
def Tk.f (i_0 : Z7) : Option Bool :=
  (KO.f i_0).bind fun t3 => some (!t3)
theorem Tk.ok {i_0} (r) (ho : Tk.f i_0 = some r) : Ok Tryz.prog 67 [.agg #[.int .u8 i_0.Op, .int .i64 i_0.A, .int .i64 i_0.B]] [arrP ZV 0 tab0] fun v => HO.pure (v = .bool r) := by
 refine oq 6 Tryz.func67 fun w hV see pb => ?_
 refine bx fun b1 => ?_
 refine kv KO.ok ho fun t3 ho => ?_
 exact Option.some.inj ho ▸ rt
inductive ZO.S where
  | start
  | l1 (x7 : Int)
def ZO.F (s_0 : List Z7) : ZO.S → Option (ZO.S ⊕ Int)
  | .start => some (.inl (.l1 0))
  | .l1 x7 => if x7 < (s_0.length : Int) then ((elt s_0 x7).bind fun x11 => (Tk.f x11).bind fun t12 => if t12 = true then (some (.inr x7)) else (some (.inl (.l1 (IntKind.i64.wrap (x7 + 1)))))) else (some (.inr (-1)))
def ZO.f (s_0 : List Z7) : Option Int := runF (ZO.F s_0) .start
theorem ZO.ok {s_0 Yz} (r) (H : ZO.f s_0 = some r) : Ok Tryz.prog 128 [Yz, .func (.func 67) #[] #[]] [slP Za Yz s_0, arrP ZV 0 tab0] fun v => HO.pure (v = .int .i64 r) := by
 refine oq 19 Tryz.func128 fun w hV see pb => ?_
 obtain ⟨m0, o, ho, hr⟩ := rn H
 refine lo ho hr (fun z => ∃ x7, z (.l1 x7) [(0, Yz), (1, .func (.func 67) #[] #[]), (7, .int .i64 (s_0.length : Int)), (8, .int .i64 x7)] []) (fun _ z => ⟨0, z⟩) ?_
 rintro _ _ _ ⟨x7, m8, o, _, _, ho, hr, h⟩
 refine en h ?_
 refine ci ho (fun ho => ?_) fun ho => ?_
 ·refine ip 0 ho fun x11 ho p9 => ?_
  refine ld 0 ?_
  refine kv Tk.ok ho fun t12 ho => ?_
  refine cb ho (fun ho => ?_) fun ho => ?_
  ·exact fin ho hr ▸ rt
  exact lw ho hr (fun _ z => ⟨(IntKind.i64.wrap (x7 + 1)), z⟩)
 exact fin ho hr ▸ rt
def X7.f (s_0 : List Z7) : Option Bool :=
  (ZO.f s_0).bind fun t2 => some (decide (t2 ≥ 0))
theorem X7.ok {s_0 Yz} (r) (ho : X7.f s_0 = some r) : Ok Tryz.prog 66 [Yz, .func (.func 67) #[] #[]] [slP Za Yz s_0, arrP ZV 0 tab0] fun v => HO.pure (v = .bool r) := by
 refine oq 9 Tryz.func66 fun w hV see pb => ?_
 refine kv ZO.ok ho fun t2 ho => ?_
 exact Option.some.inj ho ▸ rt
def Vw.f (l2 : List Int) (U4 a1 : Int) : Option (Bool × (List Int) × Int) :=
  if U4 = 4 then (some (false, l2, U4)) else ((elt l2 U4).bind fun x4 => some (true, l2.set U4.toNat a1, IntKind.i64.wrap (U4 + 1)))
theorem Vw.ok (l2 : List Int) (U4 a1 : Int)  (r : Bool × (List Int) × Int) (H : Vw.f l2 U4 a1 = some r) (w : World) (hV : Hp) (sV : Sub hV (hp w))  (b1 : Nat) (hA : Hp) (sA : Sub hA (hp w)) (dA : Dj hV hA) (hI : (arrO b1 [] (fun z : Int => Value.int .i64 z) 4 l2 [.int .i64 U4] 109).p hV hA) :
    Trip Tryz.prog 69 [.pointer (some ⟨b1, 0, none⟩), .int .i64 a1].toArray hA hV w (fun v => HO.pand (v = .bool r.1) (HO.seps [arrO b1 [] (fun z : Int => Value.int .i64 z) 4 r.2.1 [.int .i64 r.2.2] 109])) := by
 have see : Sees w hA hV := ⟨sV, dA⟩
 refine Trip.of (P := Tryz.prog) (n := ⟨26, []⟩) Tryz.func69 rfl ⟨rfl, rfl⟩ rfl (St.beginA (os := [arrO b1 [] (fun z : Int => Value.int .i64 z) 4 l2 [.int .i64 U4] 109]) sA (All.nil _) ⟨hA, em, Dj.XR _, Sub.refl _, Sub.em _, hI, trivial⟩) ?_
 have ho := H
 refine gg ?_
 refine SP.val (Val.Ul (k := 0) 0 rfl Tryz.underlying3 rfl rfl rfl rfl) rfl rfl rfl (gg ?_)
 refine ci ho (fun ho => ?_) fun ho => ?_
 ·exact Option.some.inj ho ▸ rt (sO [0])
 refine dr ?_
 refine DA.ph 0 8 ?_
 refine DT.tk 0 ?_
 refine DT.tk 1 ?_
 refine DT.tk 2 ?_
 refine DT.tk 3 ?_
 refine DT.tv 4 rfl (Val.Ul (k := 0) 0 rfl Tryz.underlying3 rfl rfl rfl rfl) ?_
 refine DT.tk 5 ?_
 refine DT.tk 6 ?_
 refine DT.tk 7 ?_
 refine dn ?_
 refine d1 8 ?_
 obtain ⟨x4, Z5e, ho⟩ := YG ho
 refine SP.val (Val.Z3h 0 rfl Tryz.underlying107 sz3.h Z5e.1 Z5e.2 rfl rfl rfl) rfl rfl rfl (gg ?_)
 refine d1 9 ?_
 refine SP.Z6Q 0 rfl sz3.h rfl Z5e.2 rfl rfl rfl (fun _ => rfl) (fun _ => rfl) (gg ?_)
 refine dz ?_
 refine SP.val (Val.Ul (k := 0) 0 rfl Tryz.underlying3 rfl rfl rfl rfl) rfl rfl rfl (gg ?_)
 refine SP.Z02 (k := 0) 0 rfl sz3.h rfl rfl rfl rfl rfl rfl rfl (gg ?_)
 exact Option.some.inj ho ▸ rt (sO [0])
def XL.j1 (l2 : List Int) (U4 a1 : Int) (b10 : Bool) : Option (Bool × (List Int) × Int) :=
  if b10 = true then (some (false, l2, U4)) else (some (true, l2, IntKind.i64.wrap (U4 - 1)))
def XL.f (l2 : List Int) (U4 a1 : Int) : Option (Bool × (List Int) × Int) :=
  if U4 = 0 then (XL.j1 l2 U4 a1 true) else ((elt l2 (IntKind.i64.wrap (U4 - 1))).bind fun x9 => XL.j1 l2 U4 a1 (decide (x9 ≠ a1)))
theorem XL.ok (l2 : List Int) (U4 a1 : Int)  (r : Bool × (List Int) × Int) (H : XL.f l2 U4 a1 = some r) (w : World) (hV : Hp) (sV : Sub hV (hp w))  (b1 : Nat) (hA : Hp) (sA : Sub hA (hp w)) (dA : Dj hV hA) (hI : (arrO b1 [] (fun z : Int => Value.int .i64 z) 4 l2 [.int .i64 U4] 109).p hV hA) :
    Trip Tryz.prog 70 [.pointer (some ⟨b1, 0, none⟩), .int .i64 a1].toArray hA hV w (fun v => HO.pand (v = .bool r.1) (HO.seps [arrO b1 [] (fun z : Int => Value.int .i64 z) 4 r.2.1 [.int .i64 r.2.2] 109])) := by
 have see : Sees w hA hV := ⟨sV, dA⟩
 refine Trip.of (P := Tryz.prog) (n := ⟨31, []⟩) Tryz.func70 rfl ⟨rfl, rfl⟩ rfl (St.beginA (os := [arrO b1 [] (fun z : Int => Value.int .i64 z) 4 l2 [.int .i64 U4] 109]) sA (All.nil _) ⟨hA, em, Dj.XR _, Sub.refl _, Sub.em _, hI, trivial⟩) ?_
 have ho := H
 refine go ?_
 refine CP.seq ?_
 refine oi r (fun z => ∃ b10, z (XL.j1 l2 U4 a1 b10) [(0, .pointer (some ⟨b1, 0, none⟩)), (23, .bool b10)] [arrO b1 [] (fun z : Int => Value.int .i64 z) 4 l2 [.int .i64 U4] 109]) ?_ ?_ (hb := pe [])
 ·rintro _ _ ⟨b10, ho, h⟩
  refine en h ?_
  refine cb ho (fun ho => ?_) fun ho => ?_
  ·exact Option.some.inj ho ▸ rt (sO [0])
  refine SP.val (Val.Ul (k := 0) 0 rfl Tryz.underlying3 rfl rfl rfl rfl) rfl rfl rfl (gg ?_)
  refine SP.Z02 (k := 0) 0 rfl sz3.h rfl rfl rfl rfl rfl rfl rfl (gg ?_)
  exact Option.some.inj ho ▸ rt (sO [0])
 refine dr ?_
 refine d1 0 ?_
 refine d1 1 ?_
 refine d1 2 ?_
 refine d1 3 ?_
 refine SP.val (Val.Ul (k := 0) 0 rfl Tryz.underlying3 rfl rfl rfl rfl) rfl rfl rfl (gg ?_)
 refine d1 4 ?_
 refine d1 5 ?_
 rcases Ws ho with ⟨hc, ho⟩ | ⟨hc, ho⟩
 ·have hg4 := (decide_eq_true hc)
  clear hc
  refine DA.ph 6 17 ?_
  refine DT.is (d := 10) (b := true) rfl hg4 ?_
  refine DT.tn 6 ?_
  refine DT.tn 7 ?_
  refine DT.tn 8 ?_
  refine DT.tn 9 ?_
  refine DT.tn 10 ?_
  refine DT.tn 11 ?_
  refine DT.tn 12 ?_
  refine DT.tn 13 ?_
  refine DT.tn 14 ?_
  refine DT.tn 15 ?_
  refine DT.tn 16 ?_
  refine dn ?_
  refine DA.ph 17 18 ?_
  refine DT.tn 17 ?_
  refine dn ?_
  refine d1 18 ?_
  refine dz ?_
  exact mo ho (fun _ z => ⟨true, z⟩)
 have hg5 := (decide_eq_false hc)
 clear hc
 refine DA.ph 6 17 ?_
 refine DT.is (d := 10) (b := false) rfl hg5 ?_
 refine DT.tk 6 ?_
 refine DT.tk 7 ?_
 refine DT.tk 8 ?_
 refine DT.tk 9 ?_
 refine DT.tv 10 rfl (Val.Ul (k := 0) 0 rfl Tryz.underlying3 rfl rfl rfl rfl) ?_
 refine DT.tk 11 ?_
 refine DT.tk 12 ?_
 refine DT.tk 13 ?_
 refine DT.tk 16 ?_
 refine DT.one 14 rfl (by kernel_rfl) rfl ?_
 obtain ⟨x9, Z5f, ho⟩ := YG ho
 refine SP.val (Val.Z3h 0 rfl Tryz.underlying107 sz3.h Z5f.1 Z5f.2 rfl rfl rfl) rfl rfl rfl (gg ?_)
 refine QE.atT (fun w2 hw => hw) ?_
 refine DT.tv 15 rfl (Val.Z7C 0 rfl Tryz.underlying3 rfl Z5f.2 rfl rfl) ?_
 refine dn ?_
 refine d1 17 ?_
 refine d1 18 ?_
 refine dz ?_
 exact mo ho (fun _ z => ⟨(decide (x9 ≠ a1)), z⟩)
def KP.f (i_0 : Z7) : Option Bool :=
  some ((decide (i_0.Op = 31)) || (decide (i_0.Op = 32)))
theorem KP.ok {i_0} (r) (ho : KP.f i_0 = some r) : Ok Tryz.prog 71 [.agg #[.int .u8 i_0.Op, .int .i64 i_0.A, .int .i64 i_0.B]] [] fun v => HO.pure (v = .bool r) := by
 refine oq 11 Tryz.func71 fun w hV see pb => ?_
 refine bx fun b1 => ?_
 refine SP.jn 4 [] 10 (.bool ((decide (i_0.Op = 31)) || (decide (i_0.Op = 32)))) ?_ ?_
 ·refine gg ?_
  exact Option.some.inj ho ▸ rt
 refine bb 6 (fun hq4 => ?_) fun hq4 => ?_
 ·exact jb (WL hq4)
 exact jb (WM hq4 rfl)
def VO.f (x_0 : Ym) (a1 : Int) : Option Bool :=
  some ((decide (a1 > x_0.From)) && (decide (a1 ≤ x_0.To)))
theorem VO.ok {x_0 a1} (r) (ho : VO.f x_0 a1 = some r) : Ok Tryz.prog 131 [.agg #[.int .i64 x_0.From, .int .i64 x_0.To, .int .i64 x_0.Turns], .int .i64 a1] [] fun v => HO.pure (v = .bool r) := by
 refine oq 15 Tryz.func131 fun w hV see pb => ?_
 refine bx fun b1 => ?_
 refine SP.jn 5 [] 14 (.bool ((decide (a1 > x_0.From)) && (decide (a1 ≤ x_0.To)))) ?_ ?_
 ·refine gg ?_
  exact Option.some.inj ho ▸ rt
 refine bb 9 (fun hq4 => ?_) fun hq4 => ?_
 ·exact jb (XT hq4 rfl)
 exact jb (XU hq4)
def VN.f (x_0 : Ym) (Ta Z5g Tc Z5h : Int) : Option Bool :=
  (VO.f x_0 Z5g).bind fun t11 => (if t11 = true then ((VO.f x_0 Z5h).bind fun t14 => some (!t14)) else (some false)).bind fun t15 => some t15
theorem VN.ok {x_0 Ta Z5g Tc Z5h b4 b7} (r) (ho : VN.f x_0 Ta Z5g Tc Z5h = some r) : Ok Tryz.prog 130 [.agg #[.int .i64 x_0.From, .int .i64 x_0.To, .int .i64 x_0.Turns], .pointer (some ⟨b4, 0, none⟩), .pointer (some ⟨b7, 0, none⟩)] [boxP b4 [.int .u8 Ta, .int .i64 Z5g, .int .i64 Tc] 43, boxP b7 [.int .i64 Z5h] 3] fun v => HO.pure (v = .bool r) := by
 refine oq 15 Tryz.func130 fun w hV see pb => ?_
 refine bx (h := fun _ => id) fun b9 => ?_
 refine SP.val (Val.assign rfl) rfl rfl rfl ?_
 refine SP.nil ?_
 refine QE.then ?_
 refine CP.seq ?_
 refine CP.region ?_
 refine SP.val (Val.loadA 0 rfl Tryz.underlying111 rfl sz111.h rfl rfl rfl) rfl rfl rfl ?_
 refine SP.val (Val.fieldAddr Tryz.underlying43 rfl sz3.h rfl) rfl rfl rfl ?_
 refine SP.val (Val.loadB1 see 0 rfl Tryz.underlying3 rfl rfl rfl) rfl rfl rfl ?_
 refine kv VO.ok ho fun t11 ho => ?_
 obtain ⟨t15, KL, ho⟩ := bind_some ho
 refine SP.jn 5 [] 14 (.bool t15) ?_ ?_
 ·clear KL
  refine gg ?_
  exact Option.some.inj ho ▸ rt
 refine bc (ht := id) 9 KL (fun hq13 ho => ?_) fun hq13 ho => ?_
 ·refine SP.val (Val.loadA 0 rfl Tryz.underlying111 rfl sz111.h rfl rfl rfl) rfl rfl rfl ?_
  refine SP.val (Val.loadB1 see 1 rfl Tryz.underlying3 rfl rfl rfl) rfl rfl rfl ?_
  refine kv VO.ok ho fun t14 ho => ?_
  obtain rfl := Option.some.inj ho
  exact jn
 obtain rfl := Option.some.inj ho
 exact jn
inductive ZP.S where
  | start
  | l1 (x15 : Int)
def ZP.F (s_0 : List Ym) (Wn Kj Wo Kk : Int) : ZP.S → Option (ZP.S ⊕ Int)
  | .start => some (.inl (.l1 0))
  | .l1 x15 => if x15 < (s_0.length : Int) then ((elt s_0 x15).bind fun x19 => (VN.f x19 Wn Kj Wo Kk).bind fun t20 => if t20 = true then (some (.inr x15)) else (some (.inl (.l1 (IntKind.i64.wrap (x15 + 1)))))) else (some (.inr (-1)))
def ZP.f (s_0 : List Ym) (Wn Kj Wo Kk : Int) : Option Int := runF (ZP.F s_0 Wn Kj Wo Kk) .start
theorem ZP.ok {s_0 Wn Kj Wo Kk Yz b5 b8} (r) (H : ZP.f s_0 Wn Kj Wo Kk = some r) : Ok Tryz.prog 190 [Yz, .func (.func 130) #[] #[.pointer (some ⟨b5, 0, none⟩), .pointer (some ⟨b8, 0, none⟩)]] [slP Wi Yz s_0, boxP b5 [.int .u8 Wn, .int .i64 Kj, .int .i64 Wo] 43, boxP b8 [.int .i64 Kk] 3] fun v => HO.pure (v = .int .i64 r) := by
 refine oq 19 Tryz.func190 fun w hV see pb => ?_
 obtain ⟨m0, o, ho, hr⟩ := rn H
 refine lo ho hr (fun z => ∃ x15, z (.l1 x15) [(0, Yz), (1, .func (.func 130) #[] #[.pointer (some ⟨b5, 0, none⟩), .pointer (some ⟨b8, 0, none⟩)]), (7, .int .i64 (s_0.length : Int)), (8, .int .i64 x15)] []) (fun _ z => ⟨0, z⟩) ?_
 rintro _ _ _ ⟨x15, m16, o, _, _, ho, hr, h⟩
 refine en h ?_
 refine ci ho (fun ho => ?_) fun ho => ?_
 ·refine ip 0 ho fun x19 ho p17 => ?_
  refine ld 0 ?_
  refine kv VN.ok ho fun t20 ho => ?_
  refine cb ho (fun ho => ?_) fun ho => ?_
  ·exact fin ho hr ▸ rt
  exact lw ho hr (fun _ z => ⟨(IntKind.i64.wrap (x15 + 1)), z⟩)
 exact fin ho hr ▸ rt
def Yp.f (s_0 : List Ym) (Wn Kj Wo Kk : Int) : Option Bool :=
  (ZP.f s_0 Wn Kj Wo Kk).bind fun t10 => some (decide (t10 ≥ 0))
theorem Yp.ok {s_0 Wn Kj Wo Kk Yz b5 b8} (r) (ho : Yp.f s_0 Wn Kj Wo Kk = some r) : Ok Tryz.prog 132 [Yz, .func (.func 130) #[] #[.pointer (some ⟨b5, 0, none⟩), .pointer (some ⟨b8, 0, none⟩)]] [slP Wi Yz s_0, boxP b5 [.int .u8 Wn, .int .i64 Kj, .int .i64 Wo] 43, boxP b8 [.int .i64 Kk] 3] fun v => HO.pure (v = .bool r) := by
 refine oq 9 Tryz.func132 fun w hV see pb => ?_
 refine kv ZP.ok ho fun t10 ho => ?_
 exact Option.some.inj ho ▸ rt
inductive XA.S where
  | start
  | l1 (x27 : Int)
def XA.j1 (l_0 : List Z7) (UU : List Ym) (x27 : Int) : Option (XA.S ⊕ Bool) :=
  some (.inl (.l1 (IntKind.i64.wrap (x27 + 1))))
def XA.F (l_0 : List Z7) (UU : List Ym) : XA.S → Option (XA.S ⊕ Bool)
  | .start => some (.inl (.l1 0))
  | .l1 x27 => if x27 < (l_0.length : Int) then ((elt l_0 x27).bind fun x31 => if ((decide (x31.Op ≠ 26)) && (decide (x31.Op ≠ 27))) = true then (XA.j1 l_0 UU x27) else ((if ((decide (x31.A ≤ x27)) || (decide (x31.A ≥ (l_0.length : Int)))) = true then (some true) else ((Yp.f UU x31.Op x31.A x31.B x27).bind fun t49 => some t49)).bind fun t50 => if t50 = true then (some (.inr false)) else (XA.j1 l_0 UU x27))) else (some (.inr true))
def XA.f (l_0 : List Z7) (UU : List Ym) : Option Bool := runF (XA.F l_0 UU) .start
theorem XA.ok {l_0 UU Y2 Jh} (r) (H : XA.f l_0 UU = some r) : Ok Tryz.prog 72 [Y2, Jh] [slP Za Y2 l_0, slP Wi Jh UU] fun v => HO.pure (v = .bool r) := by
 refine oq 41 Tryz.func72 fun w hV see pb => ?_
 obtain ⟨m0, o, ho, hr⟩ := rn H
 refine lo ho hr (fun z => ∃ x27, z (.l1 x27) [(0, Y2), (1, Jh), (8, Y2), (9, .int .i64 (l_0.length : Int)), (10, .int .i64 x27)] []) (fun _ z => ⟨0, z⟩) ?_
 rintro _ _ _ ⟨x27, m28, o, _, _, ho, hr, h⟩
 refine en h ?_
 refine ci (ht := id) ho (fun ho => ?_) fun ho => ?_
 ·refine go ?_
  refine ji hr (fun z => z (XA.j1 l_0 UU x27) [(0, Y2), (1, Jh), (8, Y2), (9, .int .i64 (l_0.length : Int)), (10, .int .i64 x27)] []) ?_ ?_
  ·rintro _ _ ⟨m51, o, _, ho, hr, h⟩
   refine en h ?_
   exact lw ho hr (fun _ z => ⟨(IntKind.i64.wrap (x27 + 1)), z⟩)
  refine gg ?_
  refine ip 0 ho fun x31 ho p29 => ?_
  refine ld 0 ?_
  refine al fun b32 => ?_
  refine al fun b34 => ?_
  refine st 1 ?_
  refine st 0 ?_
  refine SP.jn 4 [0, 1, 8, 9, 10, 5, 6] 22 (.bool ((decide (x31.Op ≠ 26)) && (decide (x31.Op ≠ 27)))) ?_ ?_
  ·refine gg ?_
   refine cb ho (fun ho => ?_) fun ho => ?_
   ·exact mi ho hr (fun _ z => z) (sO [])
   refine SP.val (Val.makeFunc (us := []) (vs := [.pointer (some ⟨b34, 0, none⟩), .pointer (some ⟨b32, 0, none⟩)]) rfl rfl) rfl rfl rfl (gg ?_)
   refine SP.jn 6 [0, 1, 8, 9, 10, 7] 34 (.bool ((decide (x31.A ≤ x27)) || (decide (x31.A ≥ (l_0.length : Int))))) ?_ ?_
   ·refine gg ?_
    refine SP.Ky see 0 rfl ?_
    refine SP.Ky see 0 rfl ?_
    obtain ⟨t50, Z5K, ho⟩ := bind_some ho
    refine SP.jn 4 [0, 1, 8, 9, 10] 39 (.bool t50) ?_ ?_
    ·clear Z5K
     refine gg ?_
     refine cb ho (fun ho => ?_) fun ho => ?_
     ·exact fin ho hr ▸ rt
     exact mi ho hr (fun _ z => z)
    refine bc 35 Z5K (fun hq48 ho => ?_) fun hq48 ho => ?_
    ·obtain rfl := Option.some.inj ho
     exact jn
    refine kv Yp.ok ho fun t49 ho => ?_
    obtain rfl := Option.some.inj ho
    exact jn
   refine bb 28 (fun hq39 => ?_) fun hq39 => ?_
   ·exact jb (WL hq39)
   exact jb (WM hq39 rfl)
  refine bb 18 (fun hq37 => ?_) fun hq37 => ?_
  ·exact jb (XT hq37 rfl)
  exact jb (XU hq37)
 exact fin ho hr ▸ rt
shelf_lay_g SlLaysF0.n6 Slsf 6 at Tryz 73 as Tryz.sort73
shelf_lay_g SlLaysC2.n5 Slgc 5 at Tryz 75 as Tryz.cmp75
shelf_lay Lays.n125 Nm 125 at Tryz as Tryz.bitsLen97
instance : Inhabited Ym := ⟨Ym.zero⟩
def enc73 (x : Ym) : List Value := [.int .i64 x.From, .int .i64 x.To, .int .i64 x.Turns]
def cf73 (x y : Ym) : Int := Lib.compareInt x.From y.From
theorem lt73 (x y : Ym) : Go.Proofs.ltOf cf73 x y = decide (x.From < y.From) := by
  unfold Go.Proofs.ltOf cf73 Lib.compareInt
  by_cases h1 : x.From < y.From
  · simp [h1]
  · by_cases h2 : y.From < x.From <;> simp [h1, h2]
theorem swo73 : Go.Sort.SWO (Go.Proofs.ltOf cf73) where
  irrefl x := by rw [lt73]; simp
  trans x y z h1 h2 := by rw [lt73] at *; simp at *; omega
  ntrans x y z h1 h2 := by rw [lt73] at *; simp at *; omega
set_option maxHeartbeats 1000000 in
theorem clos73 (x y : Ym) (W : World) : Calls Tryz.prog 74 #[.agg (enc73 x).toArray, .agg (enc73 y).toArray] W fun e w' => e = .returned (.int .i64 (cf73 x y)) ∧ ∃ q os', w' = Go.Sort.grow (W.drewN q) os' := by
  have hcon := fun W' => Go.Proofs.AnyG.cmp_Compare_int Tryz.cmp75 x.From y.From W'
  change ∀ W', Calls Tryz.prog 75 _ _ _ at hcon
  unfold cf73 enc73
  generalize Lib.compareInt x.From y.From = r at hcon ⊢
  go_enter Tryz.func74, Tryz.ntmps74
  go_wp2_with (go_at_call 75; refine (hcon _).mono ?_; rintro e w' ⟨rfl, rfl⟩)
  go_ret
  exact ⟨rfl, 0, _, by rw [Go.Sort.alloc_eq_grow, Go.Sort.alloc_eq_grow, Go.Sort.grow_grow]; rfl⟩
def srt73 (d : Array Ym) : Array Ym := Go.Sort.pdq (Go.Proofs.ltOf cf73) d 0 d.size (Lib.bitLen d.size) true true
theorem Z13 (d : Array Ym) : Go.Sort.PermIn 0 d.size d (srt73 d) ∧ Go.Sort.SortedIn (Go.Proofs.ltOf cf73) 0 d.size (srt73 d) :=
  Go.Sort.pdq_sorts (Go.Proofs.ltOf cf73) swo73 d 0 d.size (Lib.bitLen d.size) true true (Nat.zero_le _) (Nat.le_refl _) (Or.inl rfl)
theorem Z5L (F : Value) (w : World) : Calls Tryz.prog 191 #[.slice none 0 0, .int .i64 0, .int .i64 0, F] w fun e w' => e = .returned (.tuple #[]) ∧ w' = w := by
  go_enter Tryz.func191, Tryz.ntmps191
  go_wp2
  refine wp_loop_rounds 1 ?_
  rw [rounds_succ]
  go_wp2
  go_end0
  exact ⟨rfl, rfl⟩
theorem Z5M (F : Value) (w : World) : Calls Tryz.prog 133 #[.slice none 0 0, .int .i64 0, .int .i64 0, .int .i64 0, F] w fun e w' => e = .returned (.tuple #[]) ∧ w' = w := by
  have hi := Z5L F w
  go_enter Tryz.func133, Tryz.ntmps133
  go_wp2
  refine wp_loop_rounds 1 ?_
  rw [rounds_succ]
  go_wp2_with (go_at_call 191; refine hi.mono ?_; rintro e w' ⟨rfl, rfl⟩)
  (try simp only [Exit.inBlock, Exit.then]); refine bodyPost_ret (results_none rfl _ _ _) rfl ?_
  exact ⟨rfl, rfl⟩
theorem Z5N (F : Value) (w : World) : Calls Tryz.prog 73 #[.slice none 0 0, F] w fun e w' => e = .returned (.tuple #[]) ∧ w' = w := by
  have hi := Z5M F w
  have hl : Calls Tryz.prog 97 #[.int .u64 0] w fun e w' => e = .returned (.int .i64 0) ∧ w' = w := by
    have h := Any.bits_Len Tryz.bitsLen97 0 w (by omega) (by omega)
    exact h
  go_enter Tryz.func73, Tryz.ntmps73
  go_wp2_with (first | (go_at_call 97; refine hl.mono ?_; rintro e w' ⟨rfl, rfl⟩) | (go_at_call 133; refine hi.mono ?_; rintro e w' ⟨rfl, rfl⟩))
  go_end0
  exact ⟨rfl, rfl⟩
theorem Z5i (F : Value) (w : World) (hV : Hp) : Trip Tryz.prog 73 #[.slice none 0 0, F] em hV w (fun v => HO.pure (v = .tuple #[])) :=
  (Z5N F w).mono fun e w' ⟨he, hw⟩ => by
    subst hw
    exact ⟨_, he, Met.refl _, fun _ _ e _ => e, em, em, fun _ _ _ => rfl, fun _ _ _ => rfl, Dj.Yw _, Sub.em _, Sub.em _, rfl⟩
theorem Z5j {v : Value} {l : List Ym} (hll : l.length < 4611686018427387904) {w : World} {hP h1 : Hp} (sub : Sub hP (hp w)) (s1 : Sub h1 (hp w)) (dj : Dj hP h1) (hI : (slO Wi 111 v l).p hP h1) :
    Trip Tryz.prog 73 #[v, .func (.func 74) #[] #[]] h1 hP w (fun r => HO.pand (r = .tuple #[]) (HO.seps [slO Wi 111 v (srt73 l.toArray).toList])) := by
  refine slO.Z0J (fun v => #[v, .func (.func 74) #[] #[]]) (fun _ => .tuple #[]) enc73 (fun h cs x => Iff.rfl) srt73 (fun d => (Z13 d).1.1) (fun blk cap d w hH hb hsz _ _ => ?_) (fun _ w hV sV => ?_) hll sub s1 dj hI
  · exact AnyQ.slices_SortFunc_eq Tryz.sort73 3 Tryz.isAgg111 Tryz.sizeOf111 enc73 (fun _ => rfl) (fun x v hv => by simp [enc73] at hv; rcases hv with rfl | rfl | rfl <;> rfl) cf73 swo73 74 #[] blk 0 cap d w (enters_of Tryz.func74 (by kernel_rfl) rfl) (fun _ _ _ _ x y => clos73 x y _) hH hb hsz
  · exact Z5i _ w hV
inductive Y5.S where
  | start
  | l1 (l52 : List Int) (x53 : Int) (l55 : List Ym) (x57 : Int)
def Y5.j1 (l_0 : List Z7)  : Option (Y5.S ⊕ ((List Ym) × Int)) :=
  some (.inr ([], 90))
def Y5.j2 (l_0 : List Z7) (x57 : Int) (l80 : List Int) (x81 : Int) (l83 : List Ym) : Option (Y5.S ⊕ ((List Ym) × Int)) :=
  some (.inl (.l1 l80 x81 l83 (IntKind.i64.wrap (x57 + 1))))
def Y5.F (l_0 : List Z7) : Y5.S → Option (Y5.S ⊕ ((List Ym) × Int))
  | .start => (if ((decide ((l_0.length : Int) = 0)) || (decide ((l_0.length : Int) > 200))) = true then (some true) else ((X7.f l_0).bind fun t6 => some t6)).bind fun t7 => if t7 = true then (some (.inr ([], 40))) else (some (.inl (.l1 (List.replicate 4 0 : List Int) 0 [] 0)))
  | .l1 l52 x53 l55 x57 => if x57 < (l_0.length : Int) then ((elt l_0 x57).bind fun x61 => if x61.Op = 28 then ((Vw.f l52 x53 x57).bind fun t64 => if (!t64.1) = true then (Y5.j1 l_0) else (Y5.j2 l_0 x57 t64.2.1 t64.2.2 l55)) else (if x61.Op = 29 then ((XL.f l52 x53 x61.A).bind fun t65 => if (!t65.1) = true then (Y5.j1 l_0) else ((elt l_0 x61.A).bind fun x68 => if (l55.length + [(⟨x61.A, x57, x68.A⟩ : Ym)].length) * 24 ≤ 140737488355328 then (Y5.j2 l_0 x57 t65.2.1 t65.2.2 (l55 ++ [(⟨x61.A, x57, x68.A⟩ : Ym)])) else none)) else (Y5.j2 l_0 x57 l52 x53 l55))) else ((if x53 > 0 then (some true) else ((elt l_0 (IntKind.i64.wrap ((l_0.length : Int) - 1))).bind fun x90 => (KP.f x90).bind fun t91 => some (!t91))).bind fun t92 => (if t92 = true then (some true) else ((XA.f l_0 l55).bind fun t95 => some (!t95))).bind fun t96 => if t96 = true then (Y5.j1 l_0) else (if l55.length < 4611686018427387904 then (some (.inr ((srt73 l55.toArray).toList, 0))) else none))
def Y5.f (l_0 : List Z7) : Option ((List Ym) × Int) := runF (Y5.F l_0) .start
theorem Y5.ok {l_0 Y2} (r) (H : Y5.f l_0 = some r) : Ok Tryz.prog 34 [Y2] [slP Za Y2 l_0, arrP ZV 0 tab0] fun v => HO.ex fun u0 : Value => HO.pand (v = .tuple #[u0, .int .i64 r.2]) (HO.seps [slO Wi 111 u0 r.1]) := by
 refine oq 76 Tryz.func34 fun w hV see pb => ?_
 obtain ⟨m0, o, ho, hr⟩ := rn H
 refine CP.scope 0 (fun a w2 => ∃ (m107 : Nat) (o : (Y5.S ⊕ ((List Ym) × Int))), m107 ≤ m0 ∧ Y5.j1 l_0 = some o ∧ next (Y5.F l_0) m107 o = some r ∧ Env ⟨76, []⟩ [] a ∧ St w em hV [arrP ZV 0 tab0] [] w2) rfl (fun _ _ _ h => h) ?_ ?_
 ·rintro a w2 ⟨m107, o, Zay, ho, hr, ha, hw⟩
  refine CP.app ha hw ?_
  clear ha hw a w2
  refine gg ?_
  exact fin ho hr ▸ rt (fun _ h => St.selO [0] rfl rfl (St.addO (slO.nil Wi 111) h))
 refine gg ?_
 refine SP.jn 4 [0] 15 (.bool ((decide ((l_0.length : Int) = 0)) || (decide ((l_0.length : Int) > 200)))) ?_ ?_
 ·refine gg ?_
  obtain ⟨t7, Z1H, ho⟩ := bind_some ho
  refine SP.jn 3 [0] 19 (.bool t7) ?_ ?_
  ·clear Z1H
   refine gg ?_
   refine cb ho (fun ho => ?_) fun ho => ?_
   ·refine QE.scopeX rfl ?_
    exact fin ho hr ▸ rt (fun _ h => St.selO [0] rfl rfl (St.addO (slO.nil Wi 111) h))
   refine al fun b9 => ?_
   refine lo ho hr (fun z => ∃ l52 x53 l55 x57 v56, z (.l1 l52 x53 l55 x57) [(0, Y2), (4, v56), (5, .pointer (some ⟨b9, 0, none⟩)), (20, Y2), (21, .int .i64 (l_0.length : Int)), (22, .int .i64 x57)] [slO Wi 111 v56 l55, arrO b9 [] (fun z : Int => Value.int .i64 z) 4 l52 [.int .i64 x53] 109]) (fun _ z => ⟨(List.replicate 4 0 : List Int), 0, [], 0, (.slice none 0 0), z⟩) ?_ (fun _ hw => (St.addO (slO.nil Wi 111) (St.arr (f := (fun z : Int => Value.int .i64 z)) 0 rfl (List.replicate 4 0 : List Int) [] [.int .i64 0] rfl rfl hw)))
   rintro _ _ _ ⟨l52, x53, l55, x57, v56, m58, o, _, _, ho, hr, h⟩
   refine en h ?_
   refine ci (ht := id) ho (fun ho => ?_) fun ho => ?_
   ·refine go ?_
    refine ji hr (fun z => ∃ l80 x81 l83 v84, z (Y5.j2 l_0 x57 l80 x81 l83) [(0, Y2), (4, v84), (5, .pointer (some ⟨b9, 0, none⟩)), (20, Y2), (21, .int .i64 (l_0.length : Int)), (22, .int .i64 x57)] [slO Wi 111 v84 l83, arrO b9 [] (fun z : Int => Value.int .i64 z) 4 l80 [.int .i64 x81] 109]) ?_ ?_
    ·rintro _ _ ⟨l80, x81, l83, v84, m85, o, _, ho, hr, h⟩
     refine en h ?_
     exact lw ho hr (fun _ z => ⟨l80, x81, l83, (IntKind.i64.wrap (x57 + 1)), v84, z⟩)
    refine gg ?_
    refine ip 0 ho fun x61 ho p59 => ?_
    refine ld 0 ?_
    refine al fun b62 => ?_
    refine st 0 ?_
    refine ci ho (fun ho => ?_) fun ho => ?_
    ·refine so [2, 0, 1] ?_
     obtain ⟨t64, hc, ho⟩ := bind_some ho
     refine SP.callA see (caps := []) _ fn69.h rfl rfl rfl rfl (fun w2 hP h1 sub s1 d1 ap hI => Vw.ok _ _ _  _ hc w2 hP sub  _ h1 s1 d1 hI) (SP.k0 ?_)
     clear hc
     refine gg ?_
     refine cb ho (fun ho => ?_) fun ho => ?_
     ·refine CP.goto ?_
      refine QE.blockG ?_
      refine QE.blockG (gg ?_)
      refine QE.blockG (gg ?_)
      exact QE.jump fun a w2 ha hw => ⟨m58, _, (by omega), ho, hr, ha.sub trivial, (St.selP [2] rfl (St.selO [] rfl rfl hw))⟩
     exact mi ho hr (fun _ z => ⟨t64.2.1, t64.2.2, l55, v56, z⟩) (sO [2, 0])
    refine ci ho (fun ho => ?_) fun ho => ?_
    ·refine so [2, 0, 1] ?_
     obtain ⟨t65, hc, ho⟩ := bind_some ho
     refine SP.callA see (caps := []) _ fn70.h rfl rfl rfl rfl (fun w2 hP h1 sub s1 d1 ap hI => XL.ok _ _ _  _ hc w2 hP sub  _ h1 s1 d1 hI) (SP.k0 ?_)
     clear hc
     refine gg ?_
     refine cb ho (fun ho => ?_) fun ho => ?_
     ·refine CP.goto (gg ?_)
      refine QE.blockG ?_
      refine QE.blockG (gg ?_)
      refine QE.blockG (gg ?_)
      exact QE.jump fun a w2 ha hw => ⟨m58, _, (by omega), ho, hr, ha.sub trivial, (St.selP [2] rfl (St.selO [] rfl rfl hw))⟩
     refine dr ?_
     refine ge 1 ho fun x68 ho p66 Z1B => ?_
     refine DA.ghost (fun w2 h => h.fieldE see 0 rfl Za.Uf) (fun p69 Z58 => ?_)
     refine gu 0 ?_
     refine DA.ph 0 12 ?_
     refine DT.tk 0 ?_
     refine DT.tk 1 ?_
     refine DT.tk 2 ?_
     refine DT.tk 3 ?_
     refine DT.tk 4 ?_
     refine DT.tk 5 ?_
     refine DT.tk 6 ?_
     refine DT.tv 7 rfl (Val.ie rfl rfl Z1B) ?_
     refine DT.tv 8 rfl (Val.fe rfl Z58) ?_
     refine tk 9 ?_
     refine DT.tv 10 rfl (Val.buildC (us := [(0, .int .i64 x61.A), (1, .int .i64 x57), (2, .int .i64 x68.A)]) (ucs := [(0, [.int .i64 x61.A]), (1, [.int .i64 x57]), (2, [.int .i64 x68.A])]) (cs := [.int .i64 x61.A, .int .i64 x57, .int .i64 x68.A]) bt111.h rfl rfl ⟨rfl, rfl, ⟨rfl, rfl, ⟨rfl, rfl, trivial⟩⟩⟩ (by rfl)) ?_
     refine DT.one 11 rfl (by kernel_rfl) rfl ?_
     refine li Wi [(⟨x61.A, x57, x68.A⟩ : Ym)] fun v76 => ?_
     refine QE.atT (fun w2 hw => (St.selO [1, 2, 3] rfl rfl hw)) ?_
     refine dn ?_
     refine d1 (h := id) 12 ?_
     refine fz 0 ?_
     refine ap 2 0 ho fun v78 ho => ?_
     refine d1 13 ?_
     refine dz ?_
     exact mi ho hr (fun _ z => ⟨t65.2.1, t65.2.2, (l55 ++ [(⟨x61.A, x57, x68.A⟩ : Ym)]), v78, z⟩) (sO [2, 0])
    exact mi ho hr (fun _ z => ⟨l52, x53, l55, v56, z⟩) (sO [1, 2])
   refine SP.val (Val.Ul (k := 0) 1 rfl Tryz.underlying3 rfl rfl rfl rfl) rfl rfl rfl (gg ?_)
   obtain ⟨t92, Z5O, ho⟩ := bind_some ho
   refine SP.jn 9 [0, 4] 66 (.bool t92) ?_ ?_
   ·clear Z5O
    refine gg ?_
    obtain ⟨t96, Z5P, ho⟩ := bind_some ho
    refine SP.jn 5 [4] 72 (.bool t96) ?_ ?_
    ·clear Z5P
     refine gg ?_
     refine cb ho (fun ho => ?_) fun ho => ?_
     ·refine CP.goto (gg ?_)
      exact QE.jump fun a w2 ha hw => ⟨m58, _, (by omega), ho, hr, ha.sub trivial, (St.selP [1] rfl (St.selO [] rfl rfl hw))⟩
     obtain ⟨hb, ho⟩ := X6 ho
     refine SP.callA see (caps := []) (fun r => HO.pand (r = .tuple #[]) (HO.seps [slO Wi 111 v56 ((srt73 l55.toArray).toList)])) fn73.h rfl rfl rfl rfl (fun w2 hP h1 sub s1 d1 ap hI => Z5j hb sub s1 d1 hI) (SP.k0 ?_)
     clear hb
     refine gg ?_
     refine QE.scopeX rfl ?_
     exact fin ho hr ▸ rt (sO [0])
    refine bc 67 Z5P (fun hq94 ho => ?_) fun hq94 ho => ?_
    ·obtain rfl := Option.some.inj ho
     exact jn
    obtain ⟨t95, hc, ho⟩ := bind_some ho
    refine SP.callVO see (caps := []) (.bool t95) fn72.h rfl rfl rfl rfl (fun w2 hs => XA.ok _ hc w2 (hp w2) (Sub.refl _) (aS ((St.pers 0 rfl see.sub see.dj hs)) (aS (slO.read (St.own 0 rfl see.sub see.dj hs) (Sub.refl _) (Sub.refl _)) (All.nil _)))) ?_
    clear hc
    refine gg ?_
    obtain rfl := Option.some.inj ho
    exact jn
   refine bi 57 Z5O (fun hq87 ho => ?_) fun hq87 ho => ?_
   ·obtain rfl := Option.some.inj ho
    exact jn
   refine ip 0 ho fun x90 ho p88 => ?_
   refine ld 0 ?_
   refine kv KP.ok ho fun t91 ho => ?_
   obtain rfl := Option.some.inj ho
   exact QE.jn fun w2 hw => (St.selP [1, 2] rfl hw)
  refine bc 16 Z1H (fun hq5 ho => ?_) fun hq5 ho => ?_
  ·obtain rfl := Option.some.inj ho
   exact jn
  refine kv X7.ok ho fun t6 ho => ?_
  obtain rfl := Option.some.inj ho
  exact jn
 refine bb 11 (fun hq3 => ?_) fun hq3 => ?_
 ·exact jb (WL hq3)
 exact jb (WM hq3 rfl)
def Ve.f (l_0 : List Z7) : Option Int :=
  (Y5.f l_0).bind fun t2 => some t2.2
theorem Ve.ok {l_0 Y2} (r) (ho : Ve.f l_0 = some r) : Ok Tryz.prog 12 [Y2] [slP Za Y2 l_0, arrP ZV 0 tab0] fun v => HO.pure (v = .int .i64 r) := by
 refine oq 11 Tryz.func12 fun w hV see pb => ?_
 refine k1 Y5.ok ho fun t2 ho v3 => ?_
 exact Option.some.inj ho ▸ rt
def Y8.j1 (VW VX : List Zn) (VY : List Zb) (Uh : Int) (Yc VG : List Int) (VH : Int) (ZU : Bool) (ZX ZY Y0 : Int) (Y1 : List Z7) (Vn : List Int) (i_1 : Z7) (x27 : Int) : Option Bool :=
  some (decide (i_1.A < x27))
def Y8.j3 (VW VX : List Zn) (VY : List Zb) (Uh : Int) (Yc VG : List Int) (VH : Int) (ZU : Bool) (ZX ZY Y0 : Int) (Y1 : List Z7) (Vn : List Int) (i_1 : Z7) (b26 : Bool) : Option Bool :=
  if b26 = true then (Y8.j1 VW VX VY Uh Yc VG VH ZU ZX ZY Y0 Y1 Vn i_1 (VW.length : Int)) else (if i_1.Op = 30 then (Y8.j1 VW VX VY Uh Yc VG VH ZU ZX ZY Y0 Y1 Vn i_1 (VY.length : Int)) else (some true))
def Y8.j2 (VW VX : List Zn) (VY : List Zb) (Uh : Int) (Yc VG : List Int) (VH : Int) (ZU : Bool) (ZX ZY Y0 : Int) (Y1 : List Z7) (Vn : List Int) (i_1 : Z7) (b25 : Bool) : Option Bool :=
  if b25 = true then (Y8.j1 VW VX VY Uh Yc VG VH ZU ZX ZY Y0 Y1 Vn i_1 (Vn.length : Int)) else (if i_1.Op = 4 then (Y8.j3 VW VX VY Uh Yc VG VH ZU ZX ZY Y0 Y1 Vn i_1 (decide (i_1.Op = 4))) else (Y8.j3 VW VX VY Uh Yc VG VH ZU ZX ZY Y0 Y1 Vn i_1 (decide (i_1.Op = 5))))
def Y8.f (VW VX : List Zn) (VY : List Zb) (Uh : Int) (Yc VG : List Int) (VH : Int) (ZU : Bool) (ZX ZY Y0 : Int) (Y1 : List Z7) (Vn : List Int) (i_1 : Z7) : Option Bool :=
  if i_1.Op = 1 then (Y8.j1 VW VX VY Uh Yc VG VH ZU ZX ZY Y0 Y1 Vn i_1 (VX.length : Int)) else (if i_1.Op = 2 then (Y8.j2 VW VX VY Uh Yc VG VH ZU ZX ZY Y0 Y1 Vn i_1 (decide (i_1.Op = 2))) else (Y8.j2 VW VX VY Uh Yc VG VH ZU ZX ZY Y0 Y1 Vn i_1 (decide (i_1.Op = 3))))
theorem Y8.ok {VW VX VY Uh Yc VG VH ZU ZX ZY Y0 Y1 Vn i_1 Z4H Z4I Z4J Z4K Z3C Z3D Z3E b21} (r) (ho : Y8.f VW VX VY Uh Yc VG VH ZU ZX ZY Y0 Y1 Vn i_1 = some r) : Ok Tryz.prog 78 [.pointer (some ⟨b21, 0, none⟩), .agg #[.int .u8 i_1.Op, .int .i64 i_1.A, .int .i64 i_1.B]] [slP Z5 Z4H VW, slP Z5 Z4I VX, slP Z8 Z4J VY, slP (kInt .u8) Z4K Yc, slP (kInt .u8) Z3C VG, slP Za Z3D Y1, slP (kInt .u8) Z3E Vn, preP b21 [Z4H, Z4I, Z4J, .int .i64 Uh, Z4K, Z3C, .int .u8 VH, .bool ZU, .int .i64 ZX, .int .i64 ZY, .int .i64 Y0, Z3D, Z3E] 122] fun v => HO.pure (v = .bool r) := by
 refine oq 45 Tryz.func78 fun w hV see pb => ?_
 refine bx (h := fun _ => id) fun b23 => ?_
 refine go ?_
 refine oi r (fun z => ∃ x27, z (Y8.j1 VW VX VY Uh Yc VG VH ZU ZX ZY Y0 Y1 Vn i_1 x27) [(3, .pointer (some ⟨b23, 0, none⟩)), (5, .int .i64 x27)] [boxO b23 [.int .u8 i_1.Op, .int .i64 i_1.A, .int .i64 i_1.B] 43]) ?_ ?_ (hb := pe [])
 ·rintro _ _ ⟨x27, ho, h⟩
  refine en h ?_
  exact Option.some.inj ho ▸ rt
 refine gg ?_
 refine ci (hf := id) ho (fun ho => ?_) fun ho => ?_
 ·refine SP.val (Val.JH see 7 rfl Tryz.underlying22 rfl rfl rfl) rfl rfl rfl (gg ?_)
  exact mo ho (fun _ z => ⟨(VX.length : Int), z⟩)
 refine oi r (fun z => ∃ b25, z (Y8.j2 VW VX VY Uh Yc VG VH ZU ZX ZY Y0 Y1 Vn i_1 b25) [(0, .pointer (some ⟨b21, 0, none⟩)), (3, .pointer (some ⟨b23, 0, none⟩)), (7, .int .u8 i_1.Op), (16, .bool b25)] [boxO b23 [.int .u8 i_1.Op, .int .i64 i_1.A, .int .i64 i_1.B] 43]) ?_ ?_
 ·rintro _ _ ⟨b25, ho, h⟩
  refine en h ?_
  refine cb (hf := id) ho (fun ho => ?_) fun ho => ?_
  ·refine SP.val (Val.JH see 7 rfl Tryz.underlying31 rfl rfl rfl) rfl rfl rfl (gg ?_)
   exact mo ho (fun _ z => ⟨(Vn.length : Int), z⟩)
  refine oi r (fun z => ∃ b26, z (Y8.j3 VW VX VY Uh Yc VG VH ZU ZX ZY Y0 Y1 Vn i_1 b26) [(0, .pointer (some ⟨b21, 0, none⟩)), (3, .pointer (some ⟨b23, 0, none⟩)), (7, .int .u8 i_1.Op), (24, .bool b26)] [boxO b23 [.int .u8 i_1.Op, .int .i64 i_1.A, .int .i64 i_1.B] 43]) ?_ ?_
  ·rintro _ _ ⟨b26, ho, h⟩
   refine en h ?_
   refine cb ho (fun ho => ?_) fun ho => ?_
   ·refine SP.val (Val.JH see 7 rfl Tryz.underlying22 rfl rfl rfl) rfl rfl rfl (gg ?_)
    exact mo ho (fun _ z => ⟨(VW.length : Int), z⟩)
   refine ci ho (fun ho => ?_) fun ho => ?_
   ·refine SP.val (Val.JH see 7 rfl Tryz.underlying23 rfl rfl rfl) rfl rfl rfl (gg ?_)
    exact mo ho (fun _ z => ⟨(VY.length : Int), z⟩)
   exact Option.some.inj ho ▸ rt
  refine gg ?_
  refine ci ho (fun ho => ?_) fun ho => ?_
  ·exact mo ho (fun _ z => ⟨(decide (i_1.Op = 4)), z⟩)
  exact mo ho (fun _ z => ⟨(decide (i_1.Op = 5)), z⟩)
 refine gg ?_
 refine ci ho (fun ho => ?_) fun ho => ?_
 ·exact mo ho (fun _ z => ⟨(decide (i_1.Op = 2)), z⟩)
 exact mo ho (fun _ z => ⟨(decide (i_1.Op = 3)), z⟩)
def Ui.f (i_0 : Z7) (Ta Tc : List Zn) (TP : List Zb) (TY : Int) (Z5k Z30 : List Int) (Z31 : Int) (Z32 : Bool) (Z33 Z34 Z35 : Int) (Z36 : List Z7) (Z37 : List Int) : Option Bool :=
  (Y8.f Ta Tc TP TY Z5k Z30 Z31 Z32 Z33 Z34 Z35 Z36 Z37 i_0).bind fun t27 => some (!t27)
theorem Ui.ok {i_0 Ta Tc TP TY Z5k Z30 Z31 Z32 Z33 Z34 Z35 Z36 Z37 Kl Km Kq Z5Q Z4L Z4M Z4N b21 b23} (r) (ho : Ui.f i_0 Ta Tc TP TY Z5k Z30 Z31 Z32 Z33 Z34 Z35 Z36 Z37 = some r) : Ok Tryz.prog 77 [.agg #[.int .u8 i_0.Op, .int .i64 i_0.A, .int .i64 i_0.B], .pointer (some ⟨b23, 0, none⟩)] [slP Z5 Kl Ta, slP Z5 Km Tc, slP Z8 Kq TP, slP (kInt .u8) Z5Q Z5k, slP (kInt .u8) Z4L Z30, slP Za Z4M Z36, slP (kInt .u8) Z4N Z37, preP b21 [Kl, Km, Kq, .int .i64 TY, Z5Q, Z4L, .int .u8 Z31, .bool Z32, .int .i64 Z33, .int .i64 Z34, .int .i64 Z35, Z4M, Z4N] 122, boxP b23 [.pointer (some ⟨b21, 0, none⟩)] 116] fun v => HO.pure (v = .bool r) := by
 refine oq 8 Tryz.func77 fun w hV see pb => ?_
 refine bx (h := fun _ => id) fun b25 => ?_
 refine SP.val (Val.assign rfl) rfl rfl rfl ?_
 refine SP.nil ?_
 refine QE.then ?_
 refine CP.seq ?_
 refine CP.region ?_
 refine SP.val (Val.loadB1 see 8 rfl Tryz.underlying116 rfl rfl rfl) rfl rfl rfl (gg ?_)
 refine kv Y8.ok ho fun t27 ho => ?_
 exact Option.some.inj ho ▸ rt
inductive ZQ.S where
  | start
  | l1 (x31 : Int)
def ZQ.F (s_0 : List Z7) (Wn Wo : List Zn) (Vo : List Zb) (Vp : Int) (Kr Tm : List Int) (Tn : Int) (Tp : Bool) (Tq Tt Tv : Int) (Tw : List Z7) (Tx : List Int) : ZQ.S → Option (ZQ.S ⊕ Int)
  | .start => some (.inl (.l1 0))
  | .l1 x31 => if x31 < (s_0.length : Int) then ((elt s_0 x31).bind fun x35 => (Ui.f x35 Wn Wo Vo Vp Kr Tm Tn Tp Tq Tt Tv Tw Tx).bind fun t36 => if t36 = true then (some (.inr x31)) else (some (.inl (.l1 (IntKind.i64.wrap (x31 + 1)))))) else (some (.inr (-1)))
def ZQ.f (s_0 : List Z7) (Wn Wo : List Zn) (Vo : List Zb) (Vp : Int) (Kr Tm : List Int) (Tn : Int) (Tp : Bool) (Tq Tt Tv : Int) (Tw : List Z7) (Tx : List Int) : Option Int := runF (ZQ.F s_0 Wn Wo Vo Vp Kr Tm Tn Tp Tq Tt Tv Tw Tx) .start
theorem ZQ.ok {s_0 Wn Wo Vo Vp Kr Tm Tn Tp Tq Tt Tv Tw Tx Yz Us Ut Uu Jw Ja Jb Jc b22 b24} (r) (H : ZQ.f s_0 Wn Wo Vo Vp Kr Tm Tn Tp Tq Tt Tv Tw Tx = some r) : Ok Tryz.prog 128 [Yz, .func (.func 77) #[] #[.pointer (some ⟨b24, 0, none⟩)]] [slP Za Yz s_0, slP Z5 Us Wn, slP Z5 Ut Wo, slP Z8 Uu Vo, slP (kInt .u8) Jw Kr, slP (kInt .u8) Ja Tm, slP Za Jb Tw, slP (kInt .u8) Jc Tx, preP b22 [Us, Ut, Uu, .int .i64 Vp, Jw, Ja, .int .u8 Tn, .bool Tp, .int .i64 Tq, .int .i64 Tt, .int .i64 Tv, Jb, Jc] 122, boxP b24 [.pointer (some ⟨b22, 0, none⟩)] 116] fun v => HO.pure (v = .int .i64 r) := by
 refine oq 19 Tryz.func128 fun w hV see pb => ?_
 obtain ⟨m0, o, ho, hr⟩ := rn H
 refine lo ho hr (fun z => ∃ x31, z (.l1 x31) [(0, Yz), (1, .func (.func 77) #[] #[.pointer (some ⟨b24, 0, none⟩)]), (7, .int .i64 (s_0.length : Int)), (8, .int .i64 x31)] []) (fun _ z => ⟨0, z⟩) ?_
 rintro _ _ _ ⟨x31, m32, o, _, _, ho, hr, h⟩
 refine en h ?_
 refine ci ho (fun ho => ?_) fun ho => ?_
 ·refine ip 0 ho fun x35 ho p33 => ?_
  refine ld 0 ?_
  refine kv Ui.ok ho fun t36 ho => ?_
  refine cb ho (fun ho => ?_) fun ho => ?_
  ·exact fin ho hr ▸ rt
  exact lw ho hr (fun _ z => ⟨(IntKind.i64.wrap (x31 + 1)), z⟩)
 exact fin ho hr ▸ rt
def Yq.f (s_0 : List Z7) (Wn Wo : List Zn) (Vo : List Zb) (Vp : Int) (Kr Tm : List Int) (Tn : Int) (Tp : Bool) (Tq Tt Tv : Int) (Tw : List Z7) (Tx : List Int) : Option Bool :=
  (ZQ.f s_0 Wn Wo Vo Vp Kr Tm Tn Tp Tq Tt Tv Tw Tx).bind fun t26 => some (decide (t26 ≥ 0))
theorem Yq.ok {s_0 Wn Wo Vo Vp Kr Tm Tn Tp Tq Tt Tv Tw Tx Yz Us Ut Uu Jw Ja Jb Jc b22 b24} (r) (ho : Yq.f s_0 Wn Wo Vo Vp Kr Tm Tn Tp Tq Tt Tv Tw Tx = some r) : Ok Tryz.prog 66 [Yz, .func (.func 77) #[] #[.pointer (some ⟨b24, 0, none⟩)]] [slP Za Yz s_0, slP Z5 Us Wn, slP Z5 Ut Wo, slP Z8 Uu Vo, slP (kInt .u8) Jw Kr, slP (kInt .u8) Ja Tm, slP Za Jb Tw, slP (kInt .u8) Jc Tx, preP b22 [Us, Ut, Uu, .int .i64 Vp, Jw, Ja, .int .u8 Tn, .bool Tp, .int .i64 Tq, .int .i64 Tt, .int .i64 Tv, Jb, Jc] 122, boxP b24 [.pointer (some ⟨b22, 0, none⟩)] 116] fun v => HO.pure (v = .bool r) := by
 refine oq 9 Tryz.func66 fun w hV see pb => ?_
 refine kv ZQ.ok ho fun t26 ho => ?_
 exact Option.some.inj ho ▸ rt
def ZG.f (XP WI : List Int) (Wt : Int) : Option ((List Int) × (List Int)) :=
  if (XP.length + [Wt].length) * 1 ≤ 140737488355328 then (some (XP ++ [Wt], WI)) else none
theorem ZG.ok (XP WI : List Int) (Wt : Int) (Ua Xz : Value) (r : (List Int) × (List Int)) (H : ZG.f XP WI Wt = some r) (w : World) (hV : Hp) (sV : Sub hV (hp w)) (h0 h1 : anyP.p hV) (b1 : Nat) (hA : Hp) (sA : Sub hA (hp w)) (dA : Dj hV hA) (hI : (HO.seps [boxO b1 [Ua, Xz] 255, slO (kInt .u8) 5 Ua XP, slO (kInt .u8) 5 Xz WI]).p hV hA) :
    Trip Tryz.prog 253 [.pointer (some ⟨b1, 0, none⟩), .int .u8 Wt].toArray hA hV w (fun v => HO.pand (v = .tuple #[]) (HO.seps [HO.ex fun v12 : Value => HO.ex fun v13 : Value => HO.seps [boxO b1 [v12, v13] 255, slO (kInt .u8) 5 v12 r.1, slO (kInt .u8) 5 v13 r.2]])) := by
 have see : Sees w hA hV := ⟨sV, dA⟩
 refine Trip.of (P := Tryz.prog) (n := ⟨14, []⟩) Tryz.func253 rfl ⟨rfl, rfl⟩ rfl (St.beginA (os := [boxO b1 [Ua, Xz] 255, slO (kInt .u8) 5 Ua XP, slO (kInt .u8) 5 Xz WI]) sA (All.cons (x := anyP) h0 (All.cons (x := anyP) h1 (All.nil _))) hI) ?_
 have ho := H
 refine gg ?_
 refine li (h := fun _ => id) (kInt .u8) [Wt] fun v8 => ?_
 refine fz 0 ?_
 refine ap 1 0 ho fun v10 ho => ?_
 refine sh 1 fun Z5R => ?_
 refine st 0 ?_
 obtain rfl := Option.some.inj ho
 exact QE.over (rs := []) (vs := []) Tryz.results253 rfl trivial (fun w2 h => St.done (fun a b p s => ⟨rfl, s⟩) (St.shut v10 (St.shut Xz (St.group [boxO b1 [v10, Xz] 255, slO (kInt .u8) 5 v10 (XP ++ [Wt]), slO (kInt .u8) 5 Xz WI] (St.selO [0, 1, 2] rfl rfl h)))))
def YQ.f (XP WI : List Int) (Wt : Int) : Option ((List Int) × (List Int)) :=
  if (WI.length + [Wt].length) * 1 ≤ 140737488355328 then (some (XP, WI ++ [Wt])) else none
theorem YQ.ok (XP WI : List Int) (Wt : Int) (Ua Xz : Value) (r : (List Int) × (List Int)) (H : YQ.f XP WI Wt = some r) (w : World) (hV : Hp) (sV : Sub hV (hp w)) (h0 h1 : anyP.p hV) (b1 : Nat) (hA : Hp) (sA : Sub hA (hp w)) (dA : Dj hV hA) (hI : (HO.seps [boxO b1 [Ua, Xz] 255, slO (kInt .u8) 5 Ua XP, slO (kInt .u8) 5 Xz WI]).p hV hA) :
    Trip Tryz.prog 254 [.pointer (some ⟨b1, 0, none⟩), .int .u8 Wt].toArray hA hV w (fun v => HO.pand (v = .tuple #[]) (HO.seps [HO.ex fun v12 : Value => HO.ex fun v13 : Value => HO.seps [boxO b1 [v12, v13] 255, slO (kInt .u8) 5 v12 r.1, slO (kInt .u8) 5 v13 r.2]])) := by
 have see : Sees w hA hV := ⟨sV, dA⟩
 refine Trip.of (P := Tryz.prog) (n := ⟨14, []⟩) Tryz.func254 rfl ⟨rfl, rfl⟩ rfl (St.beginA (os := [boxO b1 [Ua, Xz] 255, slO (kInt .u8) 5 Ua XP, slO (kInt .u8) 5 Xz WI]) sA (All.cons (x := anyP) h0 (All.cons (x := anyP) h1 (All.nil _))) hI) ?_
 have ho := H
 refine gg ?_
 refine li (h := fun _ => id) (kInt .u8) [Wt] fun v8 => ?_
 refine fz 0 ?_
 refine ap 2 0 ho fun v10 ho => ?_
 refine sh 2 fun Z5R => ?_
 refine st 0 ?_
 obtain rfl := Option.some.inj ho
 exact QE.over (rs := []) (vs := []) Tryz.results254 rfl trivial (fun w2 h => St.done (fun a b p s => ⟨rfl, s⟩) (St.shut Ua (St.shut v10 (St.group [boxO b1 [Ua, v10] 255, slO (kInt .u8) 5 Ua XP, slO (kInt .u8) 5 v10 (WI ++ [Wt])] (St.selO [0, 1, 2] rfl rfl h)))))
def Xe.j1 (Zg : Int) (l112 l115 : List Int) : Option (XF × Bool) :=
  some ((⟨l112, l115⟩ : XF), true)
def Xe.j2 (Zg : Int) (l98 l101 : List Int) : Option (XF × Bool) :=
  (ZG.f l98 l101 2).bind fun t103 => (YQ.f t103.1 t103.2 2).bind fun t106 => Xe.j1 Zg t106.1 t106.2
def Xe.j3 (Zg : Int) (l87 l90 : List Int) : Option (XF × Bool) :=
  (ZG.f l87 l90 1).bind fun t92 => Xe.j1 Zg t92.1 t92.2
def Xe.j7 (Zg : Int) (b51 : Bool) : Option (XF × Bool) :=
  if b51 = true then ((ZG.f ([] : List Int) ([] : List Int) 2).bind fun t52 => Xe.j2 Zg t52.1 t52.2) else (if Zg = 21 then (Xe.j2 Zg [] []) else (if Zg = 22 then ((ZG.f ([] : List Int) ([] : List Int) 1).bind fun t57 => (YQ.f t57.1 t57.2 3).bind fun t62 => Xe.j1 Zg t62.1 t62.2) else (if Zg = 23 then ((ZG.f ([] : List Int) ([] : List Int) 3).bind fun t65 => (ZG.f t65.1 t65.2 1).bind fun t70 => (YQ.f t70.1 t70.2 1).bind fun t73 => Xe.j1 Zg t73.1 t73.2) else (if Zg = 25 then ((ZG.f ([] : List Int) ([] : List Int) 3).bind fun t76 => (YQ.f t76.1 t76.2 1).bind fun t81 => Xe.j1 Zg t81.1 t81.2) else (some ((⟨[], []⟩ : XF), false))))))
def Xe.j6 (Zg : Int) (b42 : Bool) : Option (XF × Bool) :=
  if b42 = true then ((YQ.f ([] : List Int) ([] : List Int) 1).bind fun t43 => (ZG.f t43.1 t43.2 2).bind fun t48 => Xe.j1 Zg t48.1 t48.2) else (if Zg = 19 then (Xe.j7 Zg (decide (Zg = 19))) else (Xe.j7 Zg (decide (Zg = 20))))
def Xe.j5 (Zg : Int) (b19 : Bool) : Option (XF × Bool) :=
  if b19 = true then ((YQ.f ([] : List Int) ([] : List Int) 1).bind fun t20 => (ZG.f t20.1 t20.2 1).bind fun t25 => (ZG.f t25.1 t25.2 1).bind fun t28 => Xe.j1 Zg t28.1 t28.2) else (if Zg = 16 then ((YQ.f ([] : List Int) ([] : List Int) 2).bind fun t31 => (ZG.f t31.1 t31.2 1).bind fun t36 => (ZG.f t36.1 t36.2 1).bind fun t39 => Xe.j1 Zg t39.1 t39.2) else (if Zg = 17 then (Xe.j6 Zg (decide (Zg = 17))) else (Xe.j6 Zg (decide (Zg = 18)))))
def Xe.j4 (Zg : Int) (b5 : Bool) : Option (XF × Bool) :=
  if b5 = true then (Xe.j1 Zg [] []) else (if Zg = 6 then ((ZG.f ([] : List Int) ([] : List Int) 0).bind fun t6 => Xe.j1 Zg t6.1 t6.2) else (if Zg = 24 then ((ZG.f ([] : List Int) ([] : List Int) 3).bind fun t11 => (ZG.f t11.1 t11.2 1).bind fun t16 => Xe.j3 Zg t16.1 t16.2) else (if Zg = 27 then (Xe.j3 Zg [] []) else (if Zg = 9 then (Xe.j5 Zg (decide (Zg = 9))) else (if Zg = 10 then (Xe.j5 Zg (decide (Zg = 10))) else (if Zg = 11 then (Xe.j5 Zg (decide (Zg = 11))) else (if Zg = 12 then (Xe.j5 Zg (decide (Zg = 12))) else (if Zg = 13 then (Xe.j5 Zg (decide (Zg = 13))) else (if Zg = 14 then (Xe.j5 Zg (decide (Zg = 14))) else (Xe.j5 Zg (decide (Zg = 15))))))))))))
def Xe.f (Zg : Int) : Option (XF × Bool) :=
  if Zg = 0 then (Xe.j4 Zg (decide (Zg = 0))) else (if Zg = 26 then (Xe.j4 Zg (decide (Zg = 26))) else (if Zg = 28 then (Xe.j4 Zg (decide (Zg = 28))) else (if Zg = 29 then (Xe.j4 Zg (decide (Zg = 29))) else (Xe.j4 Zg (decide (Zg = 32))))))
theorem Xe.ok {Zg} (r) (ho : Xe.f Zg = some r) : Ok Tryz.prog 239 [.int .u8 Zg] [] fun v => HO.ex fun u0 : Value => HO.ex fun u1 : Value => HO.pand (v = .tuple #[.agg #[u0, u1], .bool r.2]) (HO.seps [slO (kInt .u8) 5 u0 r.1.Takes, slO (kInt .u8) 5 u1 r.1.Gives]) := by
 refine oq 66 Tryz.func239 fun w hV see pb => ?_
 refine al fun b1 => ?_
 refine al (h := fun _ => id) fun b3 => ?_
 refine go ?_
 refine oi r (fun z => ∃ l112 l115 v113 v116, z (Xe.j1 Zg l112 l115) [(2, .pointer (some ⟨b1, 0, none⟩)), (4, .pointer (some ⟨b3, 0, none⟩))] [slO (kInt .u8) 5 v116 l115, slO (kInt .u8) 5 v113 l112, boxO b3 [v113, v116] 255, boxO b1 [(.slice none 0 0), (.slice none 0 0)] 255]) ?_ ?_
 ·rintro _ _ ⟨l112, l115, v113, v116, ho, h⟩
  refine en h ?_
  refine sh (h := id) 1 fun Zaz => ?_
  refine sh 0 fun ZaA => ?_
  refine st 3 ?_
  exact Option.some.inj ho ▸ rt (sO [1, 0]) (rs := [.cell 2 255, .tmp 3]) (vs := [.agg #[v113, v116], .bool true]) (hv := ⟨RVs.cellA 3 rfl rfl Tryz.underlying255 rfl sz255.h, RVs.tmp rfl, trivial⟩)
 refine go ?_
 refine CP.seq ?_
 refine go ?_
 refine CP.seq ?_
 refine go ?_
 refine CP.seq ?_
 refine go ?_
 refine CP.seq ?_
 refine go ?_
 refine oi r (fun z => ∃ l98 l101 v99 v102, z (Xe.j2 Zg l98 l101) [(2, .pointer (some ⟨b1, 0, none⟩)), (4, .pointer (some ⟨b3, 0, none⟩))] [slO (kInt .u8) 5 v102 l101, slO (kInt .u8) 5 v99 l98, boxO b3 [v99, v102] 255, boxO b1 [(.slice none 0 0), (.slice none 0 0)] 255]) ?_ ?_
 ·rintro _ _ ⟨l98, l101, v99, v102, ho, h⟩
  refine en h ?_
  refine so (h := id) [2, 1, 0, 3] ?_
  refine sg [boxO b3 [v99, v102] 255, slO (kInt .u8) 5 v99 l98, slO (kInt .u8) 5 v102 l101] ?_
  obtain ⟨t103, hc, ho⟩ := bind_some ho
  refine SP.callA see (caps := []) _ fn253.h rfl rfl rfl rfl (fun w2 hP h1 sub s1 d1 ap hI => ZG.ok _ _ _ v99 v102 _ hc w2 hP sub trivial trivial _ h1 s1 d1 hI) (SP.k0 ?_)
  refine ex fun v104 => ?_
  refine ex fun v105 => ?_
  refine ss ?_
  clear hc
  refine gg ?_
  refine sg [boxO b3 [v104, v105] 255, slO (kInt .u8) 5 v104 t103.1, slO (kInt .u8) 5 v105 t103.2] ?_
  obtain ⟨t106, hc, ho⟩ := bind_some ho
  refine SP.callA see (caps := []) _ fn254.h rfl rfl rfl rfl (fun w2 hP h1 sub s1 d1 ap hI => YQ.ok _ _ _ v104 v105 _ hc w2 hP sub trivial trivial _ h1 s1 d1 hI) (SP.k0 ?_)
  refine ex fun v107 => ?_
  refine ex fun v108 => ?_
  refine ss ?_
  clear hc
  refine gg ?_
  exact mo ho (fun _ z => ⟨t106.1, t106.2, v107, v108, z⟩) (sO [2, 1, 0, 3])
 refine go ?_
 refine CP.seq ?_
 refine go ?_
 refine CP.seq ?_
 refine go ?_
 refine CP.seq ?_
 refine go ?_
 refine CP.seq ?_
 refine go ?_
 refine oi r (fun z => ∃ l87 l90 v88 v91, z (Xe.j3 Zg l87 l90) [(2, .pointer (some ⟨b1, 0, none⟩)), (4, .pointer (some ⟨b3, 0, none⟩))] [slO (kInt .u8) 5 v91 l90, slO (kInt .u8) 5 v88 l87, boxO b3 [v88, v91] 255, boxO b1 [(.slice none 0 0), (.slice none 0 0)] 255]) ?_ ?_
 ·rintro _ _ ⟨l87, l90, v88, v91, ho, h⟩
  refine en h ?_
  refine so (h := id) [2, 1, 0, 3] ?_
  refine sg [boxO b3 [v88, v91] 255, slO (kInt .u8) 5 v88 l87, slO (kInt .u8) 5 v91 l90] ?_
  obtain ⟨t92, hc, ho⟩ := bind_some ho
  refine SP.callA see (caps := []) _ fn253.h rfl rfl rfl rfl (fun w2 hP h1 sub s1 d1 ap hI => ZG.ok _ _ _ v88 v91 _ hc w2 hP sub trivial trivial _ h1 s1 d1 hI) (SP.k0 ?_)
  refine ex fun v93 => ?_
  refine ex fun v94 => ?_
  refine ss ?_
  clear hc
  refine gg ?_
  exact mo ho (fun _ z => ⟨t92.1, t92.2, v93, v94, z⟩) (sO [2, 1, 0, 3])
 refine go ?_
 refine CP.seq ?_
 refine go ?_
 refine CP.seq ?_
 refine go ?_
 refine CP.seq ?_
 refine go ?_
 refine CP.seq ?_
 refine CP.seq ?_
 refine oi r (fun z => ∃ b5, z (Xe.j4 Zg b5) [(2, .pointer (some ⟨b1, 0, none⟩)), (4, .pointer (some ⟨b3, 0, none⟩)), (5, .int .u8 Zg), (6, .bool b5)] [boxO b3 [(.slice none 0 0), (.slice none 0 0)] 255, boxO b1 [(.slice none 0 0), (.slice none 0 0)] 255]) ?_ ?_
 ·rintro _ _ ⟨b5, ho, h⟩
  refine en h ?_
  refine cb ho (fun ho => ?_) fun ho => ?_
  ·exact mo ho (fun _ z => ⟨[], [], (.slice none 0 0), (.slice none 0 0), z⟩) (fun _ hw => (St.addO (slO.nil (kInt .u8) 5) (St.addO (slO.nil (kInt .u8) 5) hw)))
  refine ci ho (fun ho => ?_) fun ho => ?_
  ·refine sn (kInt .u8) 5 ?_
   refine sn (kInt .u8) 5 ?_
   refine so (h := id) [2, 1, 0, 3] ?_
   refine sg [boxO b3 [(.slice none 0 0), (.slice none 0 0)] 255, slO (kInt .u8) 5 (.slice none 0 0) ([] : List Int), slO (kInt .u8) 5 (.slice none 0 0) ([] : List Int)] ?_
   obtain ⟨t6, hc, ho⟩ := bind_some (x := ZG.f ([] : List Int) ([] : List Int) 0) ho
   refine SP.callA see (caps := []) _ fn253.h rfl rfl rfl rfl (fun w2 hP h1 sub s1 d1 ap hI => ZG.ok _ _ _ (.slice none 0 0) (.slice none 0 0) _ hc w2 hP sub trivial trivial _ h1 s1 d1 hI) (SP.k0 ?_)
   refine ex fun v9 => ?_
   refine ex fun v10 => ?_
   refine ss ?_
   clear hc
   refine gg ?_
   exact mo ho (fun _ z => ⟨t6.1, t6.2, v9, v10, z⟩) (sO [2, 1, 0, 3])
  refine ci ho (fun ho => ?_) fun ho => ?_
  ·refine sn (kInt .u8) 5 ?_
   refine sn (kInt .u8) 5 ?_
   refine so (h := id) [2, 1, 0, 3] ?_
   refine sg [boxO b3 [(.slice none 0 0), (.slice none 0 0)] 255, slO (kInt .u8) 5 (.slice none 0 0) ([] : List Int), slO (kInt .u8) 5 (.slice none 0 0) ([] : List Int)] ?_
   obtain ⟨t11, hc, ho⟩ := bind_some (x := ZG.f ([] : List Int) ([] : List Int) 3) ho
   refine SP.callA see (caps := []) _ fn253.h rfl rfl rfl rfl (fun w2 hP h1 sub s1 d1 ap hI => ZG.ok _ _ _ (.slice none 0 0) (.slice none 0 0) _ hc w2 hP sub trivial trivial _ h1 s1 d1 hI) (SP.k0 ?_)
   refine ex fun v14 => ?_
   refine ex fun v15 => ?_
   refine ss ?_
   clear hc
   refine gg ?_
   refine sg [boxO b3 [v14, v15] 255, slO (kInt .u8) 5 v14 t11.1, slO (kInt .u8) 5 v15 t11.2] ?_
   obtain ⟨t16, hc, ho⟩ := bind_some ho
   refine SP.callA see (caps := []) _ fn253.h rfl rfl rfl rfl (fun w2 hP h1 sub s1 d1 ap hI => ZG.ok _ _ _ v14 v15 _ hc w2 hP sub trivial trivial _ h1 s1 d1 hI) (SP.k0 ?_)
   refine ex fun v17 => ?_
   refine ex fun v18 => ?_
   refine ss ?_
   clear hc
   refine gg ?_
   exact mo ho (fun _ z => ⟨t16.1, t16.2, v17, v18, z⟩) (sO [2, 1, 0, 3])
  refine ci (hf := id) ho (fun ho => ?_) fun ho => ?_
  ·exact mo ho (fun _ z => ⟨[], [], (.slice none 0 0), (.slice none 0 0), z⟩) (fun _ hw => (St.addO (slO.nil (kInt .u8) 5) (St.addO (slO.nil (kInt .u8) 5) hw)))
  refine go ?_
  refine CP.seq ?_
  refine oi r (fun z => ∃ b19, z (Xe.j5 Zg b19) [(2, .pointer (some ⟨b1, 0, none⟩)), (4, .pointer (some ⟨b3, 0, none⟩)), (5, .int .u8 Zg), (18, .bool b19)] [boxO b3 [(.slice none 0 0), (.slice none 0 0)] 255, boxO b1 [(.slice none 0 0), (.slice none 0 0)] 255]) ?_ ?_
  ·rintro _ _ ⟨b19, ho, h⟩
   refine en h ?_
   refine cb ho (fun ho => ?_) fun ho => ?_
   ·refine sn (kInt .u8) 5 ?_
    refine sn (kInt .u8) 5 ?_
    refine so (h := id) [2, 1, 0, 3] ?_
    refine sg [boxO b3 [(.slice none 0 0), (.slice none 0 0)] 255, slO (kInt .u8) 5 (.slice none 0 0) ([] : List Int), slO (kInt .u8) 5 (.slice none 0 0) ([] : List Int)] ?_
    obtain ⟨t20, hc, ho⟩ := bind_some (x := YQ.f ([] : List Int) ([] : List Int) 1) ho
    refine SP.callA see (caps := []) _ fn254.h rfl rfl rfl rfl (fun w2 hP h1 sub s1 d1 ap hI => YQ.ok _ _ _ (.slice none 0 0) (.slice none 0 0) _ hc w2 hP sub trivial trivial _ h1 s1 d1 hI) (SP.k0 ?_)
    refine ex fun v23 => ?_
    refine ex fun v24 => ?_
    refine ss ?_
    clear hc
    refine gg ?_
    refine sg [boxO b3 [v23, v24] 255, slO (kInt .u8) 5 v23 t20.1, slO (kInt .u8) 5 v24 t20.2] ?_
    obtain ⟨t25, hc, ho⟩ := bind_some ho
    refine SP.callA see (caps := []) _ fn253.h rfl rfl rfl rfl (fun w2 hP h1 sub s1 d1 ap hI => ZG.ok _ _ _ v23 v24 _ hc w2 hP sub trivial trivial _ h1 s1 d1 hI) (SP.k0 ?_)
    refine ex fun v26 => ?_
    refine ex fun v27 => ?_
    refine ss ?_
    clear hc
    refine gg ?_
    refine sg [boxO b3 [v26, v27] 255, slO (kInt .u8) 5 v26 t25.1, slO (kInt .u8) 5 v27 t25.2] ?_
    obtain ⟨t28, hc, ho⟩ := bind_some ho
    refine SP.callA see (caps := []) _ fn253.h rfl rfl rfl rfl (fun w2 hP h1 sub s1 d1 ap hI => ZG.ok _ _ _ v26 v27 _ hc w2 hP sub trivial trivial _ h1 s1 d1 hI) (SP.k0 ?_)
    refine ex fun v29 => ?_
    refine ex fun v30 => ?_
    refine ss ?_
    clear hc
    refine gg ?_
    exact mo ho (fun _ z => ⟨t28.1, t28.2, v29, v30, z⟩) (sO [2, 1, 0, 3])
   refine ci (hf := id) ho (fun ho => ?_) fun ho => ?_
   ·refine sn (kInt .u8) 5 ?_
    refine sn (kInt .u8) 5 ?_
    refine so (h := id) [2, 1, 0, 3] ?_
    refine sg [boxO b3 [(.slice none 0 0), (.slice none 0 0)] 255, slO (kInt .u8) 5 (.slice none 0 0) ([] : List Int), slO (kInt .u8) 5 (.slice none 0 0) ([] : List Int)] ?_
    obtain ⟨t31, hc, ho⟩ := bind_some (x := YQ.f ([] : List Int) ([] : List Int) 2) ho
    refine SP.callA see (caps := []) _ fn254.h rfl rfl rfl rfl (fun w2 hP h1 sub s1 d1 ap hI => YQ.ok _ _ _ (.slice none 0 0) (.slice none 0 0) _ hc w2 hP sub trivial trivial _ h1 s1 d1 hI) (SP.k0 ?_)
    refine ex fun v34 => ?_
    refine ex fun v35 => ?_
    refine ss ?_
    clear hc
    refine gg ?_
    refine sg [boxO b3 [v34, v35] 255, slO (kInt .u8) 5 v34 t31.1, slO (kInt .u8) 5 v35 t31.2] ?_
    obtain ⟨t36, hc, ho⟩ := bind_some ho
    refine SP.callA see (caps := []) _ fn253.h rfl rfl rfl rfl (fun w2 hP h1 sub s1 d1 ap hI => ZG.ok _ _ _ v34 v35 _ hc w2 hP sub trivial trivial _ h1 s1 d1 hI) (SP.k0 ?_)
    refine ex fun v37 => ?_
    refine ex fun v38 => ?_
    refine ss ?_
    clear hc
    refine gg ?_
    refine sg [boxO b3 [v37, v38] 255, slO (kInt .u8) 5 v37 t36.1, slO (kInt .u8) 5 v38 t36.2] ?_
    obtain ⟨t39, hc, ho⟩ := bind_some ho
    refine SP.callA see (caps := []) _ fn253.h rfl rfl rfl rfl (fun w2 hP h1 sub s1 d1 ap hI => ZG.ok _ _ _ v37 v38 _ hc w2 hP sub trivial trivial _ h1 s1 d1 hI) (SP.k0 ?_)
    refine ex fun v40 => ?_
    refine ex fun v41 => ?_
    refine ss ?_
    clear hc
    refine gg ?_
    exact mo ho (fun _ z => ⟨t39.1, t39.2, v40, v41, z⟩) (sO [2, 1, 0, 3])
   refine go ?_
   refine CP.seq ?_
   refine oi r (fun z => ∃ b42, z (Xe.j6 Zg b42) [(2, .pointer (some ⟨b1, 0, none⟩)), (4, .pointer (some ⟨b3, 0, none⟩)), (5, .int .u8 Zg), (28, .bool b42)] [boxO b3 [(.slice none 0 0), (.slice none 0 0)] 255, boxO b1 [(.slice none 0 0), (.slice none 0 0)] 255]) ?_ ?_
   ·rintro _ _ ⟨b42, ho, h⟩
    refine en h ?_
    refine cb (hf := id) ho (fun ho => ?_) fun ho => ?_
    ·refine sn (kInt .u8) 5 ?_
     refine sn (kInt .u8) 5 ?_
     refine so (h := id) [2, 1, 0, 3] ?_
     refine sg [boxO b3 [(.slice none 0 0), (.slice none 0 0)] 255, slO (kInt .u8) 5 (.slice none 0 0) ([] : List Int), slO (kInt .u8) 5 (.slice none 0 0) ([] : List Int)] ?_
     obtain ⟨t43, hc, ho⟩ := bind_some (x := YQ.f ([] : List Int) ([] : List Int) 1) ho
     refine SP.callA see (caps := []) _ fn254.h rfl rfl rfl rfl (fun w2 hP h1 sub s1 d1 ap hI => YQ.ok _ _ _ (.slice none 0 0) (.slice none 0 0) _ hc w2 hP sub trivial trivial _ h1 s1 d1 hI) (SP.k0 ?_)
     refine ex fun v46 => ?_
     refine ex fun v47 => ?_
     refine ss ?_
     clear hc
     refine gg ?_
     refine sg [boxO b3 [v46, v47] 255, slO (kInt .u8) 5 v46 t43.1, slO (kInt .u8) 5 v47 t43.2] ?_
     obtain ⟨t48, hc, ho⟩ := bind_some ho
     refine SP.callA see (caps := []) _ fn253.h rfl rfl rfl rfl (fun w2 hP h1 sub s1 d1 ap hI => ZG.ok _ _ _ v46 v47 _ hc w2 hP sub trivial trivial _ h1 s1 d1 hI) (SP.k0 ?_)
     refine ex fun v49 => ?_
     refine ex fun v50 => ?_
     refine ss ?_
     clear hc
     refine gg ?_
     exact mo ho (fun _ z => ⟨t48.1, t48.2, v49, v50, z⟩) (sO [2, 1, 0, 3])
    refine go ?_
    refine CP.seq ?_
    refine oi r (fun z => ∃ b51, z (Xe.j7 Zg b51) [(2, .pointer (some ⟨b1, 0, none⟩)), (4, .pointer (some ⟨b3, 0, none⟩)), (5, .int .u8 Zg), (31, .bool b51)] [boxO b3 [(.slice none 0 0), (.slice none 0 0)] 255, boxO b1 [(.slice none 0 0), (.slice none 0 0)] 255]) ?_ ?_
    ·rintro _ _ ⟨b51, ho, h⟩
     refine en h ?_
     refine cb ho (fun ho => ?_) fun ho => ?_
     ·refine sn (kInt .u8) 5 ?_
      refine sn (kInt .u8) 5 ?_
      refine so (h := id) [2, 1, 0, 3] ?_
      refine sg [boxO b3 [(.slice none 0 0), (.slice none 0 0)] 255, slO (kInt .u8) 5 (.slice none 0 0) ([] : List Int), slO (kInt .u8) 5 (.slice none 0 0) ([] : List Int)] ?_
      obtain ⟨t52, hc, ho⟩ := bind_some (x := ZG.f ([] : List Int) ([] : List Int) 2) ho
      refine SP.callA see (caps := []) _ fn253.h rfl rfl rfl rfl (fun w2 hP h1 sub s1 d1 ap hI => ZG.ok _ _ _ (.slice none 0 0) (.slice none 0 0) _ hc w2 hP sub trivial trivial _ h1 s1 d1 hI) (SP.k0 ?_)
      refine ex fun v55 => ?_
      refine ex fun v56 => ?_
      refine ss ?_
      clear hc
      refine gg ?_
      exact mo ho (fun _ z => ⟨t52.1, t52.2, v55, v56, z⟩) (sO [2, 1, 0, 3])
     refine ci ho (fun ho => ?_) fun ho => ?_
     ·exact mo ho (fun _ z => ⟨[], [], (.slice none 0 0), (.slice none 0 0), z⟩) (fun _ hw => (St.addO (slO.nil (kInt .u8) 5) (St.addO (slO.nil (kInt .u8) 5) hw)))
     refine ci ho (fun ho => ?_) fun ho => ?_
     ·refine sn (kInt .u8) 5 ?_
      refine sn (kInt .u8) 5 ?_
      refine so (h := id) [2, 1, 0, 3] ?_
      refine sg [boxO b3 [(.slice none 0 0), (.slice none 0 0)] 255, slO (kInt .u8) 5 (.slice none 0 0) ([] : List Int), slO (kInt .u8) 5 (.slice none 0 0) ([] : List Int)] ?_
      obtain ⟨t57, hc, ho⟩ := bind_some (x := ZG.f ([] : List Int) ([] : List Int) 1) ho
      refine SP.callA see (caps := []) _ fn253.h rfl rfl rfl rfl (fun w2 hP h1 sub s1 d1 ap hI => ZG.ok _ _ _ (.slice none 0 0) (.slice none 0 0) _ hc w2 hP sub trivial trivial _ h1 s1 d1 hI) (SP.k0 ?_)
      refine ex fun v60 => ?_
      refine ex fun v61 => ?_
      refine ss ?_
      clear hc
      refine gg ?_
      refine sg [boxO b3 [v60, v61] 255, slO (kInt .u8) 5 v60 t57.1, slO (kInt .u8) 5 v61 t57.2] ?_
      obtain ⟨t62, hc, ho⟩ := bind_some ho
      refine SP.callA see (caps := []) _ fn254.h rfl rfl rfl rfl (fun w2 hP h1 sub s1 d1 ap hI => YQ.ok _ _ _ v60 v61 _ hc w2 hP sub trivial trivial _ h1 s1 d1 hI) (SP.k0 ?_)
      refine ex fun v63 => ?_
      refine ex fun v64 => ?_
      refine ss ?_
      clear hc
      refine gg ?_
      exact mo ho (fun _ z => ⟨t62.1, t62.2, v63, v64, z⟩) (sO [2, 1, 0, 3])
     refine ci ho (fun ho => ?_) fun ho => ?_
     ·refine sn (kInt .u8) 5 ?_
      refine sn (kInt .u8) 5 ?_
      refine so (h := id) [2, 1, 0, 3] ?_
      refine sg [boxO b3 [(.slice none 0 0), (.slice none 0 0)] 255, slO (kInt .u8) 5 (.slice none 0 0) ([] : List Int), slO (kInt .u8) 5 (.slice none 0 0) ([] : List Int)] ?_
      obtain ⟨t65, hc, ho⟩ := bind_some (x := ZG.f ([] : List Int) ([] : List Int) 3) ho
      refine SP.callA see (caps := []) _ fn253.h rfl rfl rfl rfl (fun w2 hP h1 sub s1 d1 ap hI => ZG.ok _ _ _ (.slice none 0 0) (.slice none 0 0) _ hc w2 hP sub trivial trivial _ h1 s1 d1 hI) (SP.k0 ?_)
      refine ex fun v68 => ?_
      refine ex fun v69 => ?_
      refine ss ?_
      clear hc
      refine gg ?_
      refine sg [boxO b3 [v68, v69] 255, slO (kInt .u8) 5 v68 t65.1, slO (kInt .u8) 5 v69 t65.2] ?_
      obtain ⟨t70, hc, ho⟩ := bind_some ho
      refine SP.callA see (caps := []) _ fn253.h rfl rfl rfl rfl (fun w2 hP h1 sub s1 d1 ap hI => ZG.ok _ _ _ v68 v69 _ hc w2 hP sub trivial trivial _ h1 s1 d1 hI) (SP.k0 ?_)
      refine ex fun v71 => ?_
      refine ex fun v72 => ?_
      refine ss ?_
      clear hc
      refine gg ?_
      refine sg [boxO b3 [v71, v72] 255, slO (kInt .u8) 5 v71 t70.1, slO (kInt .u8) 5 v72 t70.2] ?_
      obtain ⟨t73, hc, ho⟩ := bind_some ho
      refine SP.callA see (caps := []) _ fn254.h rfl rfl rfl rfl (fun w2 hP h1 sub s1 d1 ap hI => YQ.ok _ _ _ v71 v72 _ hc w2 hP sub trivial trivial _ h1 s1 d1 hI) (SP.k0 ?_)
      refine ex fun v74 => ?_
      refine ex fun v75 => ?_
      refine ss ?_
      clear hc
      refine gg ?_
      exact mo ho (fun _ z => ⟨t73.1, t73.2, v74, v75, z⟩) (sO [2, 1, 0, 3])
     refine ci ho (fun ho => ?_) fun ho => ?_
     ·refine sn (kInt .u8) 5 ?_
      refine sn (kInt .u8) 5 ?_
      refine so (h := id) [2, 1, 0, 3] ?_
      refine sg [boxO b3 [(.slice none 0 0), (.slice none 0 0)] 255, slO (kInt .u8) 5 (.slice none 0 0) ([] : List Int), slO (kInt .u8) 5 (.slice none 0 0) ([] : List Int)] ?_
      obtain ⟨t76, hc, ho⟩ := bind_some (x := ZG.f ([] : List Int) ([] : List Int) 3) ho
      refine SP.callA see (caps := []) _ fn253.h rfl rfl rfl rfl (fun w2 hP h1 sub s1 d1 ap hI => ZG.ok _ _ _ (.slice none 0 0) (.slice none 0 0) _ hc w2 hP sub trivial trivial _ h1 s1 d1 hI) (SP.k0 ?_)
      refine ex fun v79 => ?_
      refine ex fun v80 => ?_
      refine ss ?_
      clear hc
      refine gg ?_
      refine sg [boxO b3 [v79, v80] 255, slO (kInt .u8) 5 v79 t76.1, slO (kInt .u8) 5 v80 t76.2] ?_
      obtain ⟨t81, hc, ho⟩ := bind_some ho
      refine SP.callA see (caps := []) _ fn254.h rfl rfl rfl rfl (fun w2 hP h1 sub s1 d1 ap hI => YQ.ok _ _ _ v79 v80 _ hc w2 hP sub trivial trivial _ h1 s1 d1 hI) (SP.k0 ?_)
      refine ex fun v82 => ?_
      refine ex fun v83 => ?_
      refine ss ?_
      clear hc
      refine gg ?_
      exact mo ho (fun _ z => ⟨t81.1, t81.2, v82, v83, z⟩) (sO [2, 1, 0, 3])
     refine bd [(.slice none 0 0), (.slice none 0 0)] ?_
     refine st 1 ?_
     exact Option.some.inj ho ▸ rt (fun _ h => St.selO [1, 0] rfl rfl (St.addO (slO.nil (kInt .u8) 5) (St.addO (slO.nil (kInt .u8) 5) h))) (rs := [.cell 2 255, .tmp 3]) (vs := [.agg #[(.slice none 0 0), (.slice none 0 0)], .bool false]) (hv := ⟨RVs.cellA 1 rfl rfl Tryz.underlying255 rfl sz255.h, RVs.tmp rfl, trivial⟩)
    refine gg ?_
    refine ci ho (fun ho => ?_) fun ho => ?_
    ·exact mo ho (fun _ z => ⟨(decide (Zg = 19)), z⟩)
    exact mo ho (fun _ z => ⟨(decide (Zg = 20)), z⟩)
   refine gg ?_
   refine ci ho (fun ho => ?_) fun ho => ?_
   ·exact mo ho (fun _ z => ⟨(decide (Zg = 17)), z⟩)
   exact mo ho (fun _ z => ⟨(decide (Zg = 18)), z⟩)
  refine gg ?_
  refine ci ho (fun ho => ?_) fun ho => ?_
  ·exact mo ho (fun _ z => ⟨(decide (Zg = 9)), z⟩)
  refine ci ho (fun ho => ?_) fun ho => ?_
  ·exact mo ho (fun _ z => ⟨(decide (Zg = 10)), z⟩)
  refine ci ho (fun ho => ?_) fun ho => ?_
  ·exact mo ho (fun _ z => ⟨(decide (Zg = 11)), z⟩)
  refine ci ho (fun ho => ?_) fun ho => ?_
  ·exact mo ho (fun _ z => ⟨(decide (Zg = 12)), z⟩)
  refine ci ho (fun ho => ?_) fun ho => ?_
  ·exact mo ho (fun _ z => ⟨(decide (Zg = 13)), z⟩)
  refine ci ho (fun ho => ?_) fun ho => ?_
  ·exact mo ho (fun _ z => ⟨(decide (Zg = 14)), z⟩)
  exact mo ho (fun _ z => ⟨(decide (Zg = 15)), z⟩)
 refine gg ?_
 refine ci ho (fun ho => ?_) fun ho => ?_
 ·exact mo ho (fun _ z => ⟨(decide (Zg = 0)), z⟩)
 refine ci ho (fun ho => ?_) fun ho => ?_
 ·exact mo ho (fun _ z => ⟨(decide (Zg = 26)), z⟩)
 refine ci ho (fun ho => ?_) fun ho => ?_
 ·exact mo ho (fun _ z => ⟨(decide (Zg = 28)), z⟩)
 refine ci ho (fun ho => ?_) fun ho => ?_
 ·exact mo ho (fun _ z => ⟨(decide (Zg = 29)), z⟩)
 exact mo ho (fun _ z => ⟨(decide (Zg = 32)), z⟩)
def XG.f (s_0 : List Int) : Option (List Int) :=
  nilOr s_0 (some []) (if (([] : List Int).length + s_0.length) * 1 ≤ 140737488355328 then (some (([] : List Int) ++ s_0)) else none)
theorem XG.ok {s_0 Yz} (r) (ho : XG.f s_0 = some r) : Ok Tryz.prog 81 [Yz] [slP (kInt .u8) Yz s_0] fun v => HO.ex fun u0 : Value => HO.pand (v = u0) (HO.seps [slO (kInt .u8) 5 u0 r]) := by
 refine oq 8 Tryz.func81 fun w hV see pb => ?_
 refine SP.val (Val.eqlNP see 0 rfl Tryz.underlying31 rfl rfl) rfl rfl rfl (gg ?_)
 refine CP.have (fun w2 hw => slR.isNil (v := Yz) (St.pers 0 rfl see.sub see.dj hw)) (fun hnil => ?_)
 rcases Bool.eq_false_or_eq_true (nilB Yz) with hc | hc
 ·replace ho := Z4n ho (hnil hc)
  refine CP.condT rfl hc (gg ?_)
  exact Option.some.inj ho ▸ rt (fun _ h => St.selO [0] rfl rfl (St.addO (slO.nil (kInt .u8) 5) h))
 replace ho := Z4o ho
 refine CP.condF rfl hc (gg ?_)
 refine SP.lit0 (k := (kInt .u8)) Tryz.underlying31 inf5.h rfl rfl (fun v3 => gg ?_)
 refine ap 0 0 ho fun v5 ho => ?_
 exact Option.some.inj ho ▸ rt (sO [0])
def Xn.j1 (YS YT : List Zn) (YR : List Zb) (Yc : Int) (X0 Yy : List Int) (ZU : Int) (ZX : Bool) (ZY Y0 Y1 : Int) (Yr : List Z7) (Yv : List Int) (l22 : List Ze) (i_1 : Z7) (b30 : Bool) : Option (Int × (List Ze)) :=
  if b30 = true then ((elt YS i_1.A).bind fun x33 => some (x33.Kind, l22)) else ((elt Yv i_1.A).bind fun x38 => some (x38, l22))
def Xn.f (YS YT : List Zn) (YR : List Zb) (Yc : Int) (X0 Yy : List Int) (ZU : Int) (ZX : Bool) (ZY Y0 Y1 : Int) (Yr : List Z7) (Yv : List Int) (l22 : List Ze) (i_1 : Z7) : Option (Int × (List Ze)) :=
  if i_1.Op = 1 then ((elt YT i_1.A).bind fun x27 => some (x27.Kind, l22)) else (if i_1.Op = 4 then (Xn.j1 YS YT YR Yc X0 Yy ZU ZX ZY Y0 Y1 Yr Yv l22 i_1 (decide (i_1.Op = 4))) else (Xn.j1 YS YT YR Yc X0 Yy ZU ZX ZY Y0 Y1 Yr Yv l22 i_1 (decide (i_1.Op = 5))))
theorem Xn.ok (YS YT : List Zn) (YR : List Zb) (Yc : Int) (X0 Yy : List Int) (ZU : Int) (ZX : Bool) (ZY Y0 Y1 : Int) (Yr : List Z7) (Yv : List Int) (l22 : List Ze) (i_1 : Z7) (X8 X9 Xa Xb YI YJ YK : Value) (r : Int × (List Ze)) (H : Xn.f YS YT YR Yc X0 Yy ZU ZX ZY Y0 Y1 Yr Yv l22 i_1 = some r) (w : World) (hV : Hp) (sV : Sub hV (hp w)) (h0 : slR Z5 hV X8 YS) (h1 : slR Z5 hV X9 YT) (h2 : slR Z8 hV Xa YR) (h3 : slR (kInt .u8) hV Xb X0) (h4 : slR (kInt .u8) hV YI Yy) (h5 : slR Za hV YJ Yr) (h6 : slR (kInt .u8) hV YK Yv) (b1 : Nat) (hA : Hp) (sA : Sub hA (hp w)) (dA : Dj hV hA) (hI : (arrK ZC b1 [X8, X9, Xa, .int .i64 Yc, Xb, YI, .int .u8 ZU, .bool ZX, .int .i64 ZY, .int .i64 Y0, .int .i64 Y1, YJ, YK] 200 l22 [] 122).p hV hA) :
    Trip Tryz.prog 240 [.pointer (some ⟨b1, 0, none⟩), .agg #[.int .u8 i_1.Op, .int .i64 i_1.A, .int .i64 i_1.B]].toArray hA hV w (fun v => HO.pand (v = .int .u8 r.1) (HO.seps [arrK ZC b1 [X8, X9, Xa, .int .i64 Yc, Xb, YI, .int .u8 ZU, .bool ZX, .int .i64 ZY, .int .i64 Y0, .int .i64 Y1, YJ, YK] 200 r.2 [] 122])) := by
 have see : Sees w hA hV := ⟨sV, dA⟩
 refine Trip.of (P := Tryz.prog) (n := ⟨40, []⟩) Tryz.func240 rfl ⟨rfl, rfl⟩ rfl (St.beginA (os := [arrK ZC b1 [X8, X9, Xa, .int .i64 Yc, Xb, YI, .int .u8 ZU, .bool ZX, .int .i64 ZY, .int .i64 Y0, .int .i64 Y1, YJ, YK] 200 l22 [] 122]) sA (aS h0 (aS h1 (aS h2 (aS h3 (aS h4 (aS h5 (aS h6 (All.nil _)))))))) ⟨hA, em, Dj.XR _, Sub.refl _, Sub.em _, hI, trivial⟩) ?_
 have ho := H
 refine gg ?_
 refine bx fun b23 => ?_
 refine ci (hf := id) ho (fun ho => ?_) fun ho => ?_
 ·refine dr ?_
  refine DA.ph 0 7 ?_
  refine DT.tk 0 ?_
  refine DT.tk 1 ?_
  refine DT.tk 2 ?_
  refine DT.tk 3 ?_
  refine DT.tv 4 rfl (Val.Uz see 1 rfl Tryz.underlying22 rfl rfl rfl) ?_
  refine DT.tk 5 ?_
  refine DT.tk 6 ?_
  refine dn ?_
  refine d1 7 ?_
  refine ip 1 ho fun x27 ho p25 => ?_
  refine d1 8 ?_
  refine SP.fieldP see 0 rfl Tryz.underlying100 rfl sz5.h Z5.KJ rfl rfl rfl (fun p28 => gg ?_)
  refine d1 9 ?_
  refine SP.val (Val.loadP1 see 0 rfl (fun _ _ e => e) Tryz.underlying5 rfl rfl) rfl rfl rfl (gg ?_)
  refine d1 10 ?_
  refine dz ?_
  exact Option.some.inj ho ▸ rt (sO [1])
 refine oi r (fun z => ∃ b30, z (Xn.j1 YS YT YR Yc X0 Yy ZU ZX ZY Y0 Y1 Yr Yv l22 i_1 b30) [(0, .pointer (some ⟨b1, 0, none⟩)), (3, .pointer (some ⟨b23, 0, none⟩)), (19, .bool b30)] [boxO b23 [.int .u8 i_1.Op, .int .i64 i_1.A, .int .i64 i_1.B] 43, arrK ZC b1 [X8, X9, Xa, .int .i64 Yc, Xb, YI, .int .u8 ZU, .bool ZX, .int .i64 ZY, .int .i64 Y0, .int .i64 Y1, YJ, YK] 200 l22 [] 122]) ?_ ?_ (hb := pe [slP Z5 X8 YS, slP Z5 X9 YT, slP Z8 Xa YR, slP (kInt .u8) Xb X0, slP (kInt .u8) YI Yy, slP Za YJ Yr, slP (kInt .u8) YK Yv])
 ·rintro _ _ ⟨b30, ho, h⟩
  refine en h ?_
  refine cb ho (fun ho => ?_) fun ho => ?_
  ·refine dr ?_
   refine DA.ph 0 7 ?_
   refine DT.tk 0 ?_
   refine DT.tk 1 ?_
   refine DT.tk 2 ?_
   refine DT.tk 3 ?_
   refine DT.tv 4 rfl (Val.Uz see 1 rfl Tryz.underlying22 rfl rfl rfl) ?_
   refine DT.tk 5 ?_
   refine DT.tk 6 ?_
   refine dn ?_
   refine d1 7 ?_
   refine ip 0 ho fun x33 ho p31 => ?_
   refine d1 8 ?_
   refine SP.fieldP see 0 rfl Tryz.underlying100 rfl sz5.h Z5.KJ rfl rfl rfl (fun p34 => gg ?_)
   refine d1 9 ?_
   refine SP.val (Val.loadP1 see 0 rfl (fun _ _ e => e) Tryz.underlying5 rfl rfl) rfl rfl rfl (gg ?_)
   refine d1 10 ?_
   refine dz ?_
   exact Option.some.inj ho ▸ rt (sO [1])
  refine dr ?_
  refine DA.ph 0 6 ?_
  refine DT.tk 0 ?_
  refine DT.tk 1 ?_
  refine DT.tk 2 ?_
  refine DT.tv 3 rfl (Val.Uz see 1 rfl Tryz.underlying31 rfl rfl rfl) ?_
  refine DT.tk 4 ?_
  refine DT.tk 5 ?_
  refine dn ?_
  refine d1 6 ?_
  refine ip 6 ho fun x38 ho p36 => ?_
  refine d1 7 ?_
  refine SP.val (Val.loadP1 see 0 rfl (fun _ _ e => e) Tryz.underlying5 rfl rfl) rfl rfl rfl (gg ?_)
  refine d1 8 ?_
  refine dz ?_
  exact Option.some.inj ho ▸ rt (sO [1])
 refine gg ?_
 refine ci ho (fun ho => ?_) fun ho => ?_
 ·exact mo ho (fun _ z => ⟨(decide (i_1.Op = 4)), z⟩)
 exact mo ho (fun _ z => ⟨(decide (i_1.Op = 5)), z⟩)
shelf_lay_g SlLaysE.n35 Slgn 35 at Tryz 241 as Tryz.reverse241
theorem Z1I {v : Value} {l : List Int} (hll : l.length < 4611686018427387904) {w : World} {hP h1 : Hp} (sub : Sub hP (hp w)) (s1 : Sub h1 (hp w)) (dj : Dj hP h1) (hI : (slO (kInt .u8) 5 v l).p hP h1) :
    Trip Tryz.prog 241 #[v] h1 hP w (fun r => HO.pand (r = .tuple #[]) (HO.seps [slO (kInt .u8) 5 v l.reverse])) := by
  have h := slO.Z0J (P := Tryz.prog) (f := 241) (fun v => #[v]) (fun _ => .tuple #[]) (fun x => [Value.int .u8 x]) (fun h cs x => Iff.rfl) (fun d : Array Int => d.toList.reverse.toArray) (fun d => by simp) (fun blk cap d w hH hb hsz _ _ => ?_) (fun _ w hV sV => ?_) hll sub s1 dj hI
  · simpa using h
  · have := AnyE.slices_Reverse Tryz.reverse241 (Value.int .u8) (fun _ => rfl) blk 0 cap d.toList w (holdsOne.1 hH) (by simp; omega)
    refine this.mono fun e w' ⟨h1, n, h2⟩ => ⟨h1, n, #[], h2.trans (Eq.trans ?_ (Eq.symm Z28))⟩
    rw [Z2D]
  · refine (AnyE.slices_Reverse_empty Tryz.reverse241 none 0 w).mono fun e w' ⟨he, hw⟩ => ?_
    subst hw
    exact ⟨_, he, Met.refl _, fun _ _ e _ => e, em, em, fun _ _ _ => rfl, fun _ _ _ => rfl, Dj.Yw _, Sub.em _, Sub.em _, rfl⟩
shelf_lay Lays.n212 Nm 212 at Tryz as Tryz.bitsMul203
def WZ.f (x y : Int) : Option (Int × Int) := if 0 ≤ x ∧ x < 18446744073709551616 ∧ 0 ≤ y ∧ y < 18446744073709551616 then some (x * y / 18446744073709551616, x * y % 18446744073709551616) else none
theorem WZ.ok (x : Int) (y : Int) (r : Int × Int) (H : WZ.f x y = some r) (w : World) (hV : Hp) (sV : Sub hV (hp w)) :
    Trip Tryz.prog 203 [.int .u64 x, .int .u64 y].toArray em hV w (fun v => HO.pure (v = .tuple #[.int .u64 r.1, .int .u64 r.2])) := by
  unfold WZ.f at H
  obtain ⟨⟨h1, h2, h3, h4⟩, H⟩ := X6 H
  obtain rfl := Option.some.inj H
  obtain ⟨a, rfl⟩ := Int.eq_ofNat_of_zero_le h1
  obtain ⟨b, rfl⟩ := Int.eq_ofNat_of_zero_le h3
  refine (Any.bits_Mul Tryz.bitsMul203 a b (by omega) (by omega) w).mono fun e w' ⟨he, hw⟩ => ?_
  subst hw
  refine ⟨_, he, Met.refl _, fun _ _ e _ => e, em, em, fun _ _ _ => rfl, fun _ _ _ => rfl, Dj.Yw _, Sub.em _, Sub.em _, ?_⟩
  show Value.tuple _ = Value.tuple _
  simp
inductive ZF.S where
  | start
  | l1 (l12 : List Int) (x14 : Int)
def ZF.j2 (x_0 : List Int) (XJ : Int) (t3 : Int × Int) : Option (ZF.S ⊕ (List Int)) :=
  if (0 : Int) ≤ (IntKind.i64.wrap t3.2) ∧ (1 : Int) * (IntKind.i64.wrap t3.2) ≤ 281474976710656 ∧ ((IntKind.i64.wrap t3.2) : Int) ≤ 9223372036854775807 then (some (.inl (.l1 (x_0.take (List.replicate (IntKind.i64.wrap t3.2 : Int).toNat 0 : List Int).length ++ (List.replicate (IntKind.i64.wrap t3.2 : Int).toNat 0 : List Int).drop x_0.length) ((min x_0.length (List.replicate (IntKind.i64.wrap t3.2 : Int).toNat 0 : List Int).length : Nat) : Int)))) else none
def ZF.j1 (x_0 : List Int) (XJ : Int)  : Option (ZF.S ⊕ (List Int)) :=
  (WZ.f (IntKind.u64.wrap (x_0.length : Int)) (IntKind.u64.wrap XJ)).bind fun t3 => if ((decide (t3.1 > 0)) || (decide (t3.2 > 9223372036854775807))) = true then (none) else (ZF.j2 x_0 XJ t3)
def ZF.F (x_0 : List Int) (XJ : Int) : ZF.S → Option (ZF.S ⊕ (List Int))
  | .start => if XJ < 0 then (none) else (ZF.j1 x_0 XJ)
  | .l1 l12 x14 => if x14 < (l12.length : Int) then (if (0 : Int) ≤ x14 ∧ x14 ≤ (l12.length : Int) then (if (0 : Int) ≤ x14 ∧ x14 ≤ (l12.length : Int) then (some (.inl (.l1 (l12.take (x14 : Int).toNat ++ l12.take (min (x14 : Int).toNat (l12.length - (x14 : Int).toNat)) ++ l12.drop ((x14 : Int).toNat + min (x14 : Int).toNat (l12.length - (x14 : Int).toNat))) (IntKind.i64.wrap (x14 + ((min (x14 : Int).toNat (l12.length - (x14 : Int).toNat) : Nat) : Int)))))) else none) else none) else (some (.inr l12))
def ZF.f (x_0 : List Int) (XJ : Int) : Option (List Int) := runF (ZF.F x_0 XJ) .start
theorem ZF.ok {x_0 XJ KU} (r) (H : ZF.f x_0 XJ = some r) : Ok Tryz.prog 242 [KU, .int .i64 XJ] [slP (kInt .u8) KU x_0] fun v => HO.ex fun u0 : Value => HO.pand (v = u0) (HO.seps [slO (kInt .u8) 5 u0 r]) := by
 refine oq (h := fun _ _ _ => id) 48 Tryz.func242 fun w hV see pb => ?_
 obtain ⟨m0, o, ho, hr⟩ := rn H
 refine go ?_
 refine ji hr (fun z => z (ZF.j1 x_0 XJ) [(0, KU), (1, .int .i64 XJ)] []) ?_ ?_
 ·rintro _ _ ⟨m2, o, _, ho, hr, h⟩
  refine en h ?_
  obtain ⟨t3, hc, ho⟩ := bind_some ho
  refine SP.callV see (caps := []) (.tuple #[.int .u64 t3.1, .int .u64 t3.2]) fn203.h rfl rfl rfl rfl (fun w2 hP hs sub ap => WZ.ok _ _  _ hc w2 hP sub ) ?_
  clear hc
  refine go ?_
  refine ji hr (fun z => z (ZF.j2 x_0 XJ t3) [(0, KU), (6, .int .u64 t3.2)] []) ?_ ?_
  ·rintro _ _ ⟨m6, o, _, ho, hr, h⟩
   refine en h ?_
   obtain ⟨hb, ho⟩ := X6 ho
   refine SP.makeO (k := (kInt .u8)) (z := 0) Tryz.underlying31 inf5.h rfl (fun _ => rfl) rfl rfl rfl rfl hb (fun v7 => ?_)
   clear hb
   refine gg ?_
   refine SP.copyIn see 0 rfl 0 rfl Tryz.underlying31 sz5.h rfl rfl rfl rfl rfl (gg ?_)
   refine lo ho hr (fun z => ∃ l12 x14 v13, z (.l1 l12 x14) [(7, v13), (8, .int .i64 x14)] [slO (kInt .u8) 5 v13 l12]) (fun _ z => ⟨(x_0.take (List.replicate (IntKind.i64.wrap t3.2 : Int).toNat 0 : List Int).length ++ (List.replicate (IntKind.i64.wrap t3.2 : Int).toNat 0 : List Int).drop x_0.length), ((min x_0.length (List.replicate (IntKind.i64.wrap t3.2 : Int).toNat 0 : List Int).length : Nat) : Int), v7, z⟩) ?_ (hb := pe [])
   rintro _ _ _ ⟨l12, x14, v13, m15, o, _, _, ho, hr, h⟩
   refine en h ?_
   refine ci ho (fun ho => ?_) fun ho => ?_
   ·refine dr ?_
    refine DA.phase (fun _ => true) (fun _ => True) ?_
    refine DT.take 0 rfl rfl rfl rfl (by kernel_rfl) (fun _ _ _ h => h) (Val.move rfl) (fun _ _ => trivial) ?_
    refine DT.take 1 rfl rfl rfl rfl (by kernel_rfl) (fun _ _ _ h => h) (Val.move rfl) (fun _ _ => trivial) ?_
    refine DT.take 2 rfl rfl rfl rfl (by kernel_rfl) (fun _ _ _ h => h) (Val.move rfl) (fun _ _ => trivial) ?_
    refine DT.take 4 rfl rfl rfl rfl (by kernel_rfl) (fun _ _ _ h => h) (Val.move rfl) (fun _ _ => trivial) ?_
    refine DT.take 5 rfl rfl rfl rfl (by kernel_rfl) (fun _ _ _ h => h) (Val.move rfl) (fun _ _ => trivial) ?_
    refine DT.list (l2 := #[true, true, true, false, true, true, false, false, false, false]) (by kernel_rfl) ?_
    refine DT.free ?_
    obtain ⟨hz16, ho⟩ := X6 ho
    obtain ⟨hz17, ho⟩ := X6 ho
    refine DA.ph 0 7 ?_
    refine DT.tv 3 rfl (Val.sliceFrom see 0 rfl Tryz.underlying31 sz5.h rfl rfl hz16) ?_
    refine DT.tv 6 rfl (Val.sliceTo see 0 rfl Tryz.underlying31 sz5.h rfl rfl hz17) ?_
    refine dn ?_
    refine d1 7 ?_
    refine SP.Z3k see 0 rfl Tryz.underlying31 sz5.h rfl (by omega) rfl rfl rfl rfl (gg ?_)
    refine d1 8 ?_
    refine d1 9 ?_
    refine dz ?_
    exact lw ho hr (fun _ z => ⟨(l12.take (x14 : Int).toNat ++ l12.take (min (x14 : Int).toNat (l12.length - (x14 : Int).toNat)) ++ l12.drop ((x14 : Int).toNat + min (x14 : Int).toNat (l12.length - (x14 : Int).toNat))), (IntKind.i64.wrap (x14 + ((min (x14 : Int).toNat (l12.length - (x14 : Int).toNat) : Nat) : Int))), v13, z⟩)
   exact fin ho hr ▸ rt (sO [0])
  refine gg ?_
  refine SP.jn 3 [0, 6] 26 (.bool ((decide (t3.1 > 0)) || (decide (t3.2 > 9223372036854775807)))) ?_ ?_
  ·refine gg ?_
   refine cb ho (fun ho => ?_) fun ho => ?_
   ·cases ho
   exact mi ho hr (fun _ z => z)
  refine bb 23 (fun hq5 => ?_) fun hq5 => ?_
  ·exact jb (WL hq5)
  exact jb (WM hq5 rfl)
 refine gg ?_
 refine ci ho (fun ho => ?_) fun ho => ?_
 ·cases ho
 exact mi ho hr (fun _ z => z)
end Go.Proofs.YtehjiiebjkkcmaaGreatDoor
end
