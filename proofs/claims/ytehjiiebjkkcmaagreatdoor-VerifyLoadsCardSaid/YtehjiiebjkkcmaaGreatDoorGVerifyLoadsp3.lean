/- Functions of the program as plain functions, with the proof that the code computes them: printed by gen.py of this session. -/
import Derived.Test.YtehjiiebjkkcmaaGreatDoorProg
import Derived.Test.YtehjiiebjkkcmaaGreatDoorW2xVerifyLoads
import Derived.Ground.GgzProg
import Derived.Ground.Names8Prog
import Derived.Ground.NamesProg
import Derived.Ground.SlgcProg
import Derived.Ground.SlgmProg
import Derived.Ground.SlgnProg
import Derived.Ground.SlsfProg
import Derived.Shelf.Bits.Mul64
import Derived.Shelf.Lay
import Derived.Shelf.SlGeneric
import Derived.Shelf.SlIterI.Nil
import Derived.Shelf.SlSortCmp.WholeK
import Derived.Shelf.SlicesE.Reverse
import Derived.Shelf.SlicesG.Cmp
import Derived.Shelf.SlicesG.CompactI
import Derived.Shelf.Small.Bits
import Derived.Shelf.SortM.Plain
import Derived.Shelf.SortM.SortNone
import Derived.Shelf.Spec.SlicesGrow
import Derived.Test.YtehjiiebjkkcmaaGreatDoorGVerifyLoadsp2
set_option linter.unusedVariables false
set_option linter.unusedSimpArgs false
set_option maxRecDepth 20000
set_option maxHeartbeats 2000000
set_option linter.defProp false
set_option warn.classDefReducibility false
noncomputable section
namespace Go.Proofs.YtehjiiebjkkcmaaGreatDoor
open Go.Q
attribute [local irreducible] CP SP QE DA DT Val St
def Zj.j9(Zx:List Int)(a1 x39:Int):Option (Int×Int×Int):=
  some (x39,IntKind.i64.wrap (a1+8),0)
def Zj.j8(Zx:List Int)(a1 x6 x10 Xt x18 Kq Jl x30 x34 x38:Int):Option (Int×Int×Int):=
  if x6>127 then(Zj.j9 Zx a1 (IntKind.i64.wrap ((IntKind.i64.wrap (0-(IntKind.i64.wrap ((IntKind.i64.wrap (256*(IntKind.i64.wrap ((IntKind.i64.wrap (256*(IntKind.i64.wrap ((IntKind.i64.wrap (256*(IntKind.i64.wrap ((IntKind.i64.wrap (256*(IntKind.i64.wrap ((IntKind.i64.wrap (256*(IntKind.i64.wrap ((IntKind.i64.wrap (256*(IntKind.i64.wrap ((IntKind.i64.wrap (256*(IntKind.i64.wrap (0+(IntKind.i64.wrap x10)))))+(IntKind.i64.wrap Xt)))))+(IntKind.i64.wrap x18)))))+(IntKind.i64.wrap Kq)))))+(IntKind.i64.wrap Jl)))))+(IntKind.i64.wrap x30)))))+(IntKind.i64.wrap x34)))))+(IntKind.i64.wrap x38)))))-1)))else(Zj.j9 Zx a1 (IntKind.i64.wrap ((IntKind.i64.wrap (256*(IntKind.i64.wrap ((IntKind.i64.wrap (256*(IntKind.i64.wrap ((IntKind.i64.wrap (256*(IntKind.i64.wrap ((IntKind.i64.wrap (256*(IntKind.i64.wrap ((IntKind.i64.wrap (256*(IntKind.i64.wrap ((IntKind.i64.wrap (256*(IntKind.i64.wrap ((IntKind.i64.wrap (256*(IntKind.i64.wrap (0+(IntKind.i64.wrap x10)))))+(IntKind.i64.wrap Xt)))))+(IntKind.i64.wrap x18)))))+(IntKind.i64.wrap Kq)))))+(IntKind.i64.wrap Jl)))))+(IntKind.i64.wrap x30)))))+(IntKind.i64.wrap x34)))))+(IntKind.i64.wrap x38))))
def Zj.j7(Zx:List Int)(a1 x6 x10 Xt x18 Kq Jl x30 x34:Int):Option (Int×Int×Int):=
  (elt Zx (IntKind.i64.wrap (a1+0))).bind fun Uq=>if x6>127 then(Zj.j8 Zx a1 x6 x10 Xt x18 Kq Jl x30 x34 (IntKind.u8.wrap (255-Uq)))else(Zj.j8 Zx a1 x6 x10 Xt x18 Kq Jl x30 x34 Uq)
def Zj.j6(Zx:List Int)(a1 x6 x10 Xt x18 Kq Jl x30:Int):Option (Int×Int×Int):=
  (elt Zx (IntKind.i64.wrap (a1+1))).bind fun x33=>if x6>127 then(Zj.j7 Zx a1 x6 x10 Xt x18 Kq Jl x30 (IntKind.u8.wrap (255-x33)))else(Zj.j7 Zx a1 x6 x10 Xt x18 Kq Jl x30 x33)
def Zj.j5(Zx:List Int)(a1 x6 x10 Xt x18 Kq Jl:Int):Option (Int×Int×Int):=
  (elt Zx (IntKind.i64.wrap (a1+2))).bind fun x29=>if x6>127 then(Zj.j6 Zx a1 x6 x10 Xt x18 Kq Jl (IntKind.u8.wrap (255-x29)))else(Zj.j6 Zx a1 x6 x10 Xt x18 Kq Jl x29)
def Zj.j4(Zx:List Int)(a1 x6 x10 Xt x18 Kq:Int):Option (Int×Int×Int):=
  (elt Zx (IntKind.i64.wrap (a1+3))).bind fun x25=>if x6>127 then(Zj.j5 Zx a1 x6 x10 Xt x18 Kq (IntKind.u8.wrap (255-x25)))else(Zj.j5 Zx a1 x6 x10 Xt x18 Kq x25)
def Zj.j3(Zx:List Int)(a1 x6 x10 Xt x18:Int):Option (Int×Int×Int):=
  (elt Zx (IntKind.i64.wrap (a1+4))).bind fun x21=>if x6>127 then(Zj.j4 Zx a1 x6 x10 Xt x18 (IntKind.u8.wrap (255-x21)))else(Zj.j4 Zx a1 x6 x10 Xt x18 x21)
def Zj.j2(Zx:List Int)(a1 x6 x10 Xt:Int):Option (Int×Int×Int):=
  (elt Zx (IntKind.i64.wrap (a1+5))).bind fun x17=>if x6>127 then(Zj.j3 Zx a1 x6 x10 Xt (IntKind.u8.wrap (255-x17)))else(Zj.j3 Zx a1 x6 x10 Xt x17)
def Zj.j1(Zx:List Int)(a1 x6 x10:Int):Option (Int×Int×Int):=
  (elt Zx (IntKind.i64.wrap (a1+6))).bind fun WZ=>if x6>127 then(Zj.j2 Zx a1 x6 x10 (IntKind.u8.wrap (255-WZ)))else(Zj.j2 Zx a1 x6 x10 WZ)
def Zj.f(Zx:List Int)(a1:Int):Option (Int×Int×Int):=
  if((decide (a1<0))||(decide (a1>(Zx.length:Int))))=true then(some (0,0,2))else(if(IntKind.i64.wrap ((Zx.length:Int)-a1))<8 then(some (0,0,10))else((elt Zx (IntKind.i64.wrap (a1+7))).bind fun x6=>(elt Zx (IntKind.i64.wrap (a1+7))).bind fun x9=>if x6>127 then(Zj.j1 Zx a1 x6 (IntKind.u8.wrap (255-x9)))else(Zj.j1 Zx a1 x6 x9)))
theorem Zj.ok{Zx a1 Yf}(r)(ho:Zj.f Zx a1=some r):Ok Tryz.prog 228 [Yf,i6 a1] [Z9 kb Yf Zx] fun v=>HO.pure (v=.tuple #[i6 r.1,i6 r.2.1,i6 r.2.2]):=by
 refine oq 55 Tryz.func228 fun w hV see pb=>?_;refine sj 5 [0,1] 18 ho ?_ ?_;rotate_left
 ·refine bb 13 (fun hq3=>?_) fun hq3=>?_
  ·exact jb (Vi hq3)
  exact jb (Vj hq3 rfl)
 refine gg ?_;refine cb ho (fun ho=>?_) fun ho=>?_
 ·exact sI ho▸rt
 refine ci ho (fun ho=>?_) fun ho=>?_
 ·exact sI ho▸rt
 refine ip 0 ho fun x6 ho p4=>?_;refine CP.rounds 10 ?_;refine LP.step (gg ?_);refine CP.W9 rfl rfl (gg ?_);refine ip (h:=fun _ _=>id) 1 ho fun x9 ho p7=>?_;refine SP.val (Val.Z1L see 0 rfl (fun _ _ e=>e) Tryz.underlying5 rfl rfl) rfl rfl rfl ?_;refine go ?_;refine oi r (fun z=>∃x10,z (Zj.j1 Zx a1 x6 x10) [(0,Yf),(1,i6 a1),(7,.bool (decide (x6>127))),(8,i6 0),(9,i6 7),(10,i8 x10)] []) ?_ ?_;rotate_left
 ·refine gg ?_;refine ci ho (fun ho=>?_) fun ho=>?_
  ·exact mo ho (fun _ z=>⟨(wb (255-x9)),z⟩)
  exact mo ho (fun _ z=>⟨x9,z⟩)
 rintro _ _ ⟨x10,ho,h⟩;refine en h ?_;refine QE.round ?_;refine LP.step (gg ?_);refine CP.W9 rfl rfl (gg ?_);refine ip (h:=fun _ _=>id) 0 ho fun WZ ho p11=>?_;refine SP.val (Val.Z1L see 0 rfl (fun _ _ e=>e) Tryz.underlying5 rfl rfl) rfl rfl rfl ?_;refine go ?_;refine oi r (fun z=>∃Xt,z (Zj.j2 Zx a1 x6 x10 Xt) [(0,Yf),(1,i6 a1),(7,.bool (decide (x6>127))),(8,i6 (wr (0+(wr x10)))),(9,i6 6),(10,i8 Xt)] []) ?_ ?_;rotate_left
 ·refine gg ?_;refine ci ho (fun ho=>?_) fun ho=>?_
  ·exact mo ho (fun _ z=>⟨(wb (255-WZ)),z⟩)
  exact mo ho (fun _ z=>⟨WZ,z⟩)
 rintro _ _ ⟨Xt,ho,h⟩;refine en h ?_;refine QE.round ?_;refine LP.step (gg ?_);refine CP.W9 rfl rfl (gg ?_);refine ip (h:=fun _ _=>id) 0 ho fun x17 ho p15=>?_;refine SP.val (Val.Z1L see 0 rfl (fun _ _ e=>e) Tryz.underlying5 rfl rfl) rfl rfl rfl ?_;refine go ?_;refine oi r (fun z=>∃x18,z (Zj.j3 Zx a1 x6 x10 Xt x18) [(0,Yf),(1,i6 a1),(7,.bool (decide (x6>127))),(8,i6 (wr ((wr (256*(wr (0+(wr x10)))))+(wr Xt)))),(9,i6 5),(10,i8 x18)] []) ?_ ?_;rotate_left
 ·refine gg ?_;refine ci ho (fun ho=>?_) fun ho=>?_
  ·exact mo ho (fun _ z=>⟨(wb (255-x17)),z⟩)
  exact mo ho (fun _ z=>⟨x17,z⟩)
 rintro _ _ ⟨x18,ho,h⟩;refine en h ?_;refine QE.round ?_;refine LP.step (gg ?_);refine CP.W9 rfl rfl (gg ?_);refine ip (h:=fun _ _=>id) 0 ho fun x21 ho p19=>?_;refine SP.val (Val.Z1L see 0 rfl (fun _ _ e=>e) Tryz.underlying5 rfl rfl) rfl rfl rfl ?_;refine go ?_;refine oi r (fun z=>∃Kq,z (Zj.j4 Zx a1 x6 x10 Xt x18 Kq) [(0,Yf),(1,i6 a1),(7,.bool (decide (x6>127))),(8,i6 (wr ((wr (256*(wr ((wr (256*(wr (0+(wr x10)))))+(wr Xt)))))+(wr x18)))),(9,i6 4),(10,i8 Kq)] []) ?_ ?_;rotate_left
 ·refine gg ?_;refine ci ho (fun ho=>?_) fun ho=>?_
  ·exact mo ho (fun _ z=>⟨(wb (255-x21)),z⟩)
  exact mo ho (fun _ z=>⟨x21,z⟩)
 rintro _ _ ⟨Kq,ho,h⟩;refine en h ?_;refine QE.round ?_;refine LP.step (gg ?_);refine CP.W9 rfl rfl (gg ?_);refine ip (h:=fun _ _=>id) 0 ho fun x25 ho p23=>?_;refine SP.val (Val.Z1L see 0 rfl (fun _ _ e=>e) Tryz.underlying5 rfl rfl) rfl rfl rfl ?_;refine go ?_;refine oi r (fun z=>∃Jl,z (Zj.j5 Zx a1 x6 x10 Xt x18 Kq Jl) [(0,Yf),(1,i6 a1),(7,.bool (decide (x6>127))),(8,i6 (wr ((wr (256*(wr ((wr (256*(wr ((wr (256*(wr (0+(wr x10)))))+(wr Xt)))))+(wr x18)))))+(wr Kq)))),(9,i6 3),(10,i8 Jl)] []) ?_ ?_;rotate_left
 ·refine gg ?_;refine ci ho (fun ho=>?_) fun ho=>?_
  ·exact mo ho (fun _ z=>⟨(wb (255-x25)),z⟩)
  exact mo ho (fun _ z=>⟨x25,z⟩)
 rintro _ _ ⟨Jl,ho,h⟩;refine en h ?_;refine QE.round ?_;refine LP.step (gg ?_);refine CP.W9 rfl rfl (gg ?_);refine ip (h:=fun _ _=>id) 0 ho fun x29 ho p27=>?_;refine SP.val (Val.Z1L see 0 rfl (fun _ _ e=>e) Tryz.underlying5 rfl rfl) rfl rfl rfl ?_;refine go ?_;refine oi r (fun z=>∃x30,z (Zj.j6 Zx a1 x6 x10 Xt x18 Kq Jl x30) [(0,Yf),(1,i6 a1),(7,.bool (decide (x6>127))),(8,i6 (wr ((wr (256*(wr ((wr (256*(wr ((wr (256*(wr ((wr (256*(wr (0+(wr x10)))))+(wr Xt)))))+(wr x18)))))+(wr Kq)))))+(wr Jl)))),(9,i6 2),(10,i8 x30)] []) ?_ ?_;rotate_left
 ·refine gg ?_;refine ci ho (fun ho=>?_) fun ho=>?_
  ·exact mo ho (fun _ z=>⟨(wb (255-x29)),z⟩)
  exact mo ho (fun _ z=>⟨x29,z⟩)
 rintro _ _ ⟨x30,ho,h⟩;refine en h ?_;refine QE.round ?_;refine LP.step (gg ?_);refine CP.W9 rfl rfl (gg ?_);refine ip (h:=fun _ _=>id) 0 ho fun x33 ho p31=>?_;refine SP.val (Val.Z1L see 0 rfl (fun _ _ e=>e) Tryz.underlying5 rfl rfl) rfl rfl rfl ?_;refine go ?_;refine oi r (fun z=>∃x34,z (Zj.j7 Zx a1 x6 x10 Xt x18 Kq Jl x30 x34) [(0,Yf),(1,i6 a1),(7,.bool (decide (x6>127))),(8,i6 (wr ((wr (256*(wr ((wr (256*(wr ((wr (256*(wr ((wr (256*(wr ((wr (256*(wr (0+(wr x10)))))+(wr Xt)))))+(wr x18)))))+(wr Kq)))))+(wr Jl)))))+(wr x30)))),(9,i6 1),(10,i8 x34)] []) ?_ ?_;rotate_left
 ·refine gg ?_;refine ci ho (fun ho=>?_) fun ho=>?_
  ·exact mo ho (fun _ z=>⟨(wb (255-x33)),z⟩)
  exact mo ho (fun _ z=>⟨x33,z⟩)
 rintro _ _ ⟨x34,ho,h⟩;refine en h ?_;refine QE.round ?_;refine LP.step (gg ?_);refine CP.W9 rfl rfl (gg ?_);refine ip (h:=fun _ _=>id) 0 ho fun Uq ho p35=>?_;refine SP.val (Val.Z1L see 0 rfl (fun _ _ e=>e) Tryz.underlying5 rfl rfl) rfl rfl rfl ?_;refine go ?_;refine oi r (fun z=>∃x38,z (Zj.j8 Zx a1 x6 x10 Xt x18 Kq Jl x30 x34 x38) [(0,Yf),(1,i6 a1),(7,.bool (decide (x6>127))),(8,i6 (wr ((wr (256*(wr ((wr (256*(wr ((wr (256*(wr ((wr (256*(wr ((wr (256*(wr ((wr (256*(wr (0+(wr x10)))))+(wr Xt)))))+(wr x18)))))+(wr Kq)))))+(wr Jl)))))+(wr x30)))))+(wr x34)))),(9,i6 0),(10,i8 x38)] []) ?_ ?_;rotate_left
 ·refine gg ?_;refine ci ho (fun ho=>?_) fun ho=>?_
  ·exact mo ho (fun _ z=>⟨(wb (255-Uq)),z⟩)
  exact mo ho (fun _ z=>⟨Uq,z⟩)
 rintro _ _ ⟨x38,ho,h⟩;refine en h ?_;refine QE.round ?_;refine LP.step (gg ?_);refine CP.K4 rfl rfl ?_;refine go ?_;refine oi r (fun z=>∃x39,z (Zj.j9 Zx a1 x39) [(1,i6 a1),(8,i6 x39)] []) ?_ ?_ (hb:=pe [])
 ·rintro _ _ ⟨x39,ho,h⟩;refine en h ?_;exact sI ho▸rt
 refine gg ?_;refine ci ho (fun ho=>?_) fun ho=>?_
 ·refine SP.val (Val.neg rfl) rfl rfl rfl (gg ?_);exact mo ho (fun _ z=>⟨(wr ((wr (0-(wr ((wr (256*(wr ((wr (256*(wr ((wr (256*(wr ((wr (256*(wr ((wr (256*(wr ((wr (256*(wr ((wr (256*(wr (0+(wr x10)))))+(wr Xt)))))+(wr x18)))))+(wr Kq)))))+(wr Jl)))))+(wr x30)))))+(wr x34)))))+(wr x38)))))-1)),z⟩)
 exact mo ho (fun _ z=>⟨(wr ((wr (256*(wr ((wr (256*(wr ((wr (256*(wr ((wr (256*(wr ((wr (256*(wr ((wr (256*(wr ((wr (256*(wr (0+(wr x10)))))+(wr Xt)))))+(wr x18)))))+(wr Kq)))))+(wr Jl)))))+(wr x30)))))+(wr x34)))))+(wr x38))),z⟩)
def TH.f(Zx:List Int)(a1:Int):Option (Zp×Int×Int):=
  if((decide (a1<0))||(decide (a1>(Zx.length:Int))))=true then(some ((⟨0,0,0⟩:Zp),0,2))else(if a1=(Zx.length:Int)then(some ((⟨0,0,0⟩:Zp),0,10))else((elt Zx a1).bind fun x8=>if x8=1 then((Zj.f Zx (IntKind.i64.wrap (a1+1))).bind fun t9=>if t9.2.2≠0 then(some ((⟨0,0,0⟩:Zp),0,10))else(some ((⟨1,t9.1,0⟩:Zp),t9.2.1,0)))else(if x8=2 then(if(IntKind.i64.wrap ((Zx.length:Int)-a1))<7 then(some ((⟨0,0,0⟩:Zp),0,10))else((ZN.f Zx (IntKind.i64.wrap (a1+1)) 3).bind fun t10=>(ZN.f Zx (IntKind.i64.wrap (a1+4)) 3).bind fun t11=>if((decide (t10.1>2097152))||(decide (t11.1>2097152)))=true then(some ((⟨0,0,0⟩:Zp),0,30))else(some ((⟨2,IntKind.i64.wrap (t10.1-1048576),IntKind.i64.wrap (t11.1-1048576)⟩:Zp),IntKind.i64.wrap (a1+7),0))))else(some ((⟨0,0,0⟩:Zp),0,30)))))
theorem TH.ok{Zx a1 Yf}(r)(ho:TH.f Zx a1=some r):Ok Tryz.prog 178 [Yf,i6 a1] [Z9 kb Yf Zx] fun v=>HO.pure (v=.tuple #[.agg #[i8 r.1.Kind,i6 r.1.A,i6 r.1.B],i6 r.2.1,i6 r.2.2]):=by
 refine oq 89 Tryz.func178 fun w hV see pb=>?_;refine al fun b2=>?_;refine sj 5 [0,1,4] 23 ho ?_ ?_;rotate_left
 ·refine bb 18 (fun UF=>?_) fun UF=>?_
  ·exact jb (Vi UF)
  exact jb (Vj UF rfl)
 refine gg ?_;refine cb ho (fun ho=>?_) fun ho=>?_
 ·refine bd [i8 0,i6 0,i6 0] ?_;refine st 0 ?_;exact sI ho▸rt
 refine ci ho (fun ho=>?_) fun ho=>?_
 ·refine bd [i8 0,i6 0,i6 0] ?_;refine st 0 ?_;exact sI ho▸rt
 refine ip 0 ho fun x8 ho p6=>?_;refine ci ho (fun ho=>?_) fun ho=>?_
 ·refine kv Zj.ok ho fun t9 ho=>?_;refine ci ho (fun ho=>?_) fun ho=>?_
  ·refine bd [i8 0,i6 0,i6 0] ?_;refine st 0 ?_;exact sI ho▸rt
  refine bd [i8 1,i6 t9.1,i6 0] ?_;refine st 0 ?_;exact sI ho▸rt
 refine ci ho (fun ho=>?_) fun ho=>?_;rotate_left
 ·refine bd [i8 0,i6 0,i6 0] ?_;refine st 0 ?_;exact sI ho▸rt
 refine ci ho (fun ho=>?_) fun ho=>?_
 ·refine bd [i8 0,i6 0,i6 0] ?_;refine st 0 ?_;exact sI ho▸rt
 refine kv ZN.ok ho fun t10 ho=>?_;refine kv ZN.ok ho fun t11 ho=>?_;refine sj 3 [1,4,10,13] 79 ho ?_ ?_
 ·refine gg ?_;refine cb ho (fun ho=>?_) fun ho=>?_
  ·refine bd [i8 0,i6 0,i6 0] ?_;refine st 0 ?_;exact sI ho▸rt
  refine bd [i8 2,i6 (wr (t10.1-1048576)),i6 (wr (t11.1-1048576))] ?_;refine st 0 ?_;exact sI ho▸rt
 refine bb 76 (fun Z31=>?_) fun Z31=>?_
 ·exact jb (Vi Z31)
 exact jb (Vj Z31 rfl)
inductive X8.S where
  |start
  |l1 (t2:Int×Int×Int) (WS:Int) (Tf:List Zp)
def X8.F(Zx:List Int)(a1:Int):X8.S→Option (X8.S⊕((List Zp)×Int×Int))
  | .start=>(ZN.f Zx a1 1).bind fun t2=>if t2.2.2≠0 then(some (.inr ([],0,t2.2.2)))else(if t2.1>32 then(some (.inr ([],0,60)))else(some (.inl (.l1 t2 t2.2.1 []))))
  | .l1 t2 WS Tf=>if(Tf.length:Int)<t2.1 then((TH.f Zx WS).bind fun t21=>if t21.2.2≠0 then(some (.inr ([],0,t21.2.2)))else(if(Tf.length + [t21.1].length)*24≤140737488355328 then(some (.inl (.l1 t2 t21.2.1 (Tf ++ [t21.1]))))else none))else(some (.inr (Tf,WS,0)))
def X8.f(Zx:List Int)(a1:Int):Option ((List Zp)×Int×Int):=Zw (X8.F Zx a1) .start
theorem X8.ok{Zx a1 Yf}(r)(H:X8.f Zx a1=some r):Ok Tryz.prog 120 [Yf,i6 a1] [Z9 kb Yf Zx] fun v=>HO.ex fun u0:Value=>HO.Yr (v=.tuple #[u0,i6 r.2.1,i6 r.2.2]) (HO.Yk [Zg Z4 100 u0 r.1]):=by
 refine oq 47 Tryz.func120 fun w hV see pb=>?_;obtain⟨m0,o,ho,hr⟩:=rn H;refine kv ZN.ok ho fun t2 ho=>?_;refine ci ho (fun ho=>?_) fun ho=>?_
 ·exact fin ho hr▸rt (fun _ h=>sQ [0] (nO Z4 100 h))
 refine ci ho (fun ho=>?_) fun ho=>?_
 ·exact fin ho hr▸rt (fun _ h=>sQ [0] (nO Z4 100 h))
 refine lo ho hr (fun z=>∃WS Tf v19,z (.l1 t2 WS Tf) [(0,Yf),(7,i6 t2.1),(8,i6 WS),(10,v19)] [Zg Z4 100 v19 Tf]) (fun _ z=>⟨t2.2.1,[],nl,z⟩) ?_ (fun _ hw=>(nO Z4 100 hw));rintro _ _ _ ⟨WS,Tf,v19,m20,o,_,_,ho,hr,h⟩;refine en h ?_;refine ci ho (fun ho=>?_) fun ho=>?_
 ·refine kv TH.ok ho fun t21 ho=>?_;refine al fun b22=>?_;refine st 0 ?_;refine ci ho (fun ho=>?_) fun ho=>?_
  ·exact fin ho hr▸rt (fun _ h=>sQ [0] (nO Z4 100 h))
  refine li (h:=fun _=>id) Z4 [t21.1] fun v25=>?_;refine fz 0 ?_;refine ap 1 0 ho fun v27 ho=>?_;exact lw ho hr (fun _ z=>⟨t21.2.1,(Tf ++ [t21.1]),v27,z⟩) (sO [1])
 exact fin ho hr▸rt (sO [0])
inductive X7.S where
  |start
  |l1 (x18:Int)
def X7.F(ZC:List Int):X7.S→Option (X7.S⊕Bool)
  | .start=>some (.inl (.l1 0))
  | .l1 x18=>if x18<(ZC.length:Int)then((elt ZC x18).bind fun Kq=>(if Kq≠1 then((elt ZC x18).bind fun x27=>some (decide (x27≠2)))else(some false)).bind fun t28=>(if t28=true then((elt ZC x18).bind fun x33=>some (decide (x33≠3)))else(some false)).bind fun t34=>if t34=true then(some (.inr false))else(some (.inl (.l1 (IntKind.i64.wrap (x18+1))))))else(some (.inr true))
def X7.f(ZC:List Int):Option Bool:=Zw (X7.F ZC) .start
theorem X7.ok{ZC Yt}(r)(H:X7.f ZC=some r):Ok Tryz.prog 159 [Yt] [Z9 kb Yt ZC] fun v=>HO.pure (v=.bool r):=by
 refine oq 29 Tryz.func159 fun w hV see pb=>?_;obtain⟨m0,o,ho,hr⟩:=rn H;refine lo ho hr (fun z=>∃x18,z (.l1 x18) [(0,Yt),(3,i6 x18)] []) (fun _ z=>⟨0,z⟩) ?_;rintro _ _ _ ⟨x18,m19,o,_,_,ho,hr,h⟩;refine en h ?_;refine ci ho (fun ho=>?_) fun ho=>?_;rotate_left
 ·exact fin ho hr▸rt
 refine ip 0 ho fun Kq ho p20=>?_;obtain⟨t28,ZgZ,ho⟩:=bind_some ho;refine SP.jn 6 [0,3] 21 (.bool t28) ?_ ?_;rotate_left
 ·refine bi 15 ZgZ (fun Zw3 ho=>?_) fun Zw3 ho=>?_
  ·refine ip 1 ho fun x27 ho p25=>?_;obtain rfl:=sI ho;exact QE.jn fun w2 hw=>(St.V5 [1,2] rfl hw)
  obtain rfl:=sI ho;exact jn
 clear ZgZ;refine gg ?_;obtain⟨t34,Z6M,ho⟩:=bind_some ho;refine sj 6 [0,3] 28 ho ?_ ?_
 ·clear Z6M;refine gg ?_;refine cb ho (fun ho=>?_) fun ho=>?_
  ·exact fin ho hr▸rt
  exact lw ho hr (fun _ z=>⟨(wr (x18+1)),z⟩)
 refine bc 22 Z6M (fun Zw4 ho=>?_) fun Zw4 ho=>?_
 ·refine ip 1 ho fun x33 ho p31=>?_;obtain rfl:=sI ho;exact QE.jn fun w2 hw=>(St.V5 [1,2] rfl hw)
 obtain rfl:=sI ho;exact jn
inductive YB.S where
  |start
  |l1 (x5:Int) (l21:List Int) (x23:Int)
def YB.F(Zx:List Int)(a1 Z0r:Int):YB.S→Option (YB.S⊕((List Int)×Int×Int))
  | .start=>if a1≥(Zx.length:Int)then(some (.inr ([],0,10)))else((elt Zx a1).bind fun x5=>if(IntKind.i64.wrap x5)>Z0r then(some (.inr ([],0,70)))else(some (.inl (.l1 x5 [] 1))))
  | .l1 x5 l21 x23=>if x23≤(IntKind.i64.wrap x5)then(if(IntKind.i64.wrap (a1+x23))≥(Zx.length:Int)then(some (.inr ([],0,10)))else((elt Zx (IntKind.i64.wrap (a1+x23))).bind fun x28=>if(l21.length + [x28].length)*1≤140737488355328 then((X7.f (l21 ++ [x28])).bind fun t33=>if(!t33)=true then(some (.inr ([],0,70)))else(some (.inl (.l1 x5 (l21 ++ [x28]) (IntKind.i64.wrap (x23+1))))))else none))else(some (.inr (l21,IntKind.i64.wrap ((IntKind.i64.wrap (a1+1))+(IntKind.i64.wrap x5)),0)))
def YB.f(Zx:List Int)(a1 Z0r:Int):Option ((List Int)×Int×Int):=Zw (YB.F Zx a1 Z0r) .start
theorem YB.ok{Zx a1 Z0r Yf}(r)(H:YB.f Zx a1 Z0r=some r):Ok Tryz.prog 179 [Yf,i6 a1,i6 Z0r] [Z9 kb Yf Zx] fun v=>HO.ex fun u0:Value=>HO.Yr (v=.tuple #[u0,i6 r.2.1,i6 r.2.2]) (HO.Yk [Zg kb 5 u0 r.1]):=by
 refine oq 52 Tryz.func179 fun w hV see pb=>?_;obtain⟨m0,o,ho,hr⟩:=rn H;refine ci ho (fun ho=>?_) fun ho=>?_
 ·exact fin ho hr▸rt (fun _ h=>sQ [0] (nO kb 5 h))
 refine ip 0 ho fun x5 ho p3=>?_;refine ci ho (fun ho=>?_) fun ho=>?_
 ·exact fin ho hr▸rt (fun _ h=>sQ [0] (nO kb 5 h))
 refine lo ho hr (fun z=>∃l21 x23 v22,z (.l1 x5 l21 x23) [(0,Yf),(1,i6 a1),(9,i6 (wr x5)),(10,v22),(11,i6 x23)] [Zg kb 5 v22 l21]) (fun _ z=>⟨[],1,nl,z⟩) ?_ (fun _ hw=>(nO kb 5 hw));rintro _ _ _ ⟨l21,x23,v22,m24,o,_,_,ho,hr,h⟩;refine en h ?_;refine ci ho (fun ho=>?_) fun ho=>?_;rotate_left
 ·exact fin ho hr▸rt (sO [0])
 refine ci ho (fun ho=>?_) fun ho=>?_
 ·exact fin ho hr▸rt (fun _ h=>sQ [0] (nO kb 5 h))
 refine ip 0 ho fun x28 ho p26=>?_;refine li (h:=fun _=>id) kb [x28] fun v29=>?_;refine fz 0 ?_;refine ap 0 0 ho fun v31 ho=>?_;obtain⟨t33,hc,ho⟩:=bind_some ho;refine SP.Z0m see (caps:=[]) (.bool t33) Zpn.h rfl rfl rfl rfl (fun w2 hs=>X7.ok _ hc w2 (hp w2) (Sub.refl _) (aS (Zg.read (St.own 0 rfl see.sub see.dj hs) (Sub.refl _) (Sub.refl _)) (All.nil _))) ?_;clear hc;refine gg ?_;refine cb ho (fun ho=>?_) fun ho=>?_
 ·exact fin ho hr▸rt (fun _ h=>sQ [0] (nO kb 5 h))
 exact lw ho hr (fun _ z=>⟨(l21 ++ [x28]),(wr (x23+1)),v31,z⟩)
def Ub.f(Zx:List Int)(a1:Int):Option (Zb×Int×Int):=
  if((decide (a1<0))||(decide (a1>(Zx.length:Int))))=true then(some ((⟨[],[],0,false,0,0,0,[]⟩:Zb),0,2))else((YB.f Zx a1 4).bind fun t11=>if t11.2.2≠0 then(some ((⟨[],[],0,false,0,0,0,[]⟩:Zb),0,t11.2.2))else((YB.f Zx t11.2.1 (IntKind.i64.wrap (16-(t11.1.length:Int)))).bind fun t17=>if t17.2.2≠0 then(some ((⟨[],[],0,false,0,0,0,[]⟩:Zb),0,t17.2.2))else((elt ([1,1,3,2,2]:List Int) 0).bind fun x30=>(ZN.f Zx t17.2.1 x30).bind fun t31=>if t31.2.2≠0 then(some ((⟨[],[],0,false,0,0,0,[]⟩:Zb),0,10))else((elt ([1,0,0,0,0]:List Int) 0).bind fun x36=>(if t31.1<x36 then(some true)else((elt ([2,1,1048576,256,1024]:List Int) 0).bind fun x40=>some (decide (t31.1>x40)))).bind fun t41=>if t41=true then(some ((⟨[],[],0,false,0,0,0,[]⟩:Zb),0,70))else(if(([]:List Int).length + [t31.1].length)*8≤140737488355328 then((elt ([1,1,3,2,2]:List Int) 1).bind fun x51=>(ZN.f Zx t31.2.1 x51).bind fun t52=>if t52.2.2≠0 then(some ((⟨[],[],0,false,0,0,0,[]⟩:Zb),0,10))else((elt ([1,0,0,0,0]:List Int) 1).bind fun JZ=>(if t52.1<JZ then(some true)else((elt ([2,1,1048576,256,1024]:List Int) 1).bind fun Tk=>some (decide (t52.1>Tk)))).bind fun t62=>if t62=true then(some ((⟨[],[],0,false,0,0,0,[]⟩:Zb),0,70))else(if((([]:List Int) ++ [t31.1]).length + [t52.1].length)*8≤140737488355328 then((elt ([1,1,3,2,2]:List Int) 2).bind fun x71=>(ZN.f Zx t52.2.1 x71).bind fun t72=>if t72.2.2≠0 then(some ((⟨[],[],0,false,0,0,0,[]⟩:Zb),0,10))else((elt ([1,0,0,0,0]:List Int) 2).bind fun x77=>(if t72.1<x77 then(some true)else((elt ([2,1,1048576,256,1024]:List Int) 2).bind fun x81=>some (decide (t72.1>x81)))).bind fun t82=>if t82=true then(some ((⟨[],[],0,false,0,0,0,[]⟩:Zb),0,70))else(if(((([]:List Int) ++ [t31.1]) ++ [t52.1]).length + [t72.1].length)*8≤140737488355328 then((elt ([1,1,3,2,2]:List Int) 3).bind fun x91=>(ZN.f Zx t72.2.1 x91).bind fun Vv=>if Vv.2.2≠0 then(some ((⟨[],[],0,false,0,0,0,[]⟩:Zb),0,10))else((elt ([1,0,0,0,0]:List Int) 3).bind fun x97=>(if Vv.1<x97 then(some true)else((elt ([2,1,1048576,256,1024]:List Int) 3).bind fun x101=>some (decide (Vv.1>x101)))).bind fun Jz=>if Jz=true then(some ((⟨[],[],0,false,0,0,0,[]⟩:Zb),0,70))else(if((((([]:List Int) ++ [t31.1]) ++ [t52.1]) ++ [t72.1]).length + [Vv.1].length)*8≤140737488355328 then((elt ([1,1,3,2,2]:List Int) 4).bind fun Zn6=>(ZN.f Zx Vv.2.1 Zn6).bind fun Z19=>if Z19.2.2≠0 then(some ((⟨[],[],0,false,0,0,0,[]⟩:Zb),0,10))else((elt ([1,0,0,0,0]:List Int) 4).bind fun Jr=>(if Z19.1<Jr then(some true)else((elt ([2,1,1048576,256,1024]:List Int) 4).bind fun Zn7=>some (decide (Z19.1>Zn7)))).bind fun Z6N=>if Z6N=true then(some ((⟨[],[],0,false,0,0,0,[]⟩:Zb),0,70))else(if(((((([]:List Int) ++ [t31.1]) ++ [t52.1]) ++ [t72.1]) ++ [Vv.1]).length + [Z19.1].length)*8≤140737488355328 then((elt (((((([]:List Int) ++ [t31.1]) ++ [t52.1]) ++ [t72.1]) ++ [Vv.1]) ++ [Z19.1]) 0).bind fun Z2F=>(elt (((((([]:List Int) ++ [t31.1]) ++ [t52.1]) ++ [t72.1]) ++ [Vv.1]) ++ [Z19.1]) 1).bind fun Z2G=>(elt (((((([]:List Int) ++ [t31.1]) ++ [t52.1]) ++ [t72.1]) ++ [Vv.1]) ++ [Z19.1]) 2).bind fun Zfq=>(elt (((((([]:List Int) ++ [t31.1]) ++ [t52.1]) ++ [t72.1]) ++ [Vv.1]) ++ [Z19.1]) 3).bind fun Z0g=>(elt (((((([]:List Int) ++ [t31.1]) ++ [t52.1]) ++ [t72.1]) ++ [Vv.1]) ++ [Z19.1]) 4).bind fun Z1a=>some ((⟨t11.1,t17.1,IntKind.u8.wrap Z2F,decide (Z2G=1),Zfq,Z0g,Z1a,[]⟩:Zb),Z19.2.1,0))else none)))else none)))else none)))else none)))else none)))))
theorem Ub.ok{Zx a1 Yf}(r)(ho:Ub.f Zx a1=some r):Ok Tryz.prog 122 [Yf,i6 a1] [Z9 kb Yf Zx] fun v=>HO.ex fun u0:Value=>HO.ex fun u1:Value=>HO.ex fun u2:Value=>HO.Yr (v=.tuple #[.agg #[u0,u1,i8 r.1.Result,.bool r.1.Reads,i6 r.1.Fuel,i6 r.1.Stack,i6 r.1.Heap,u2],i6 r.2.1,i6 r.2.2]) (HO.Yk [Zg kb 5 u0 r.1.Args,Zg kb 5 u1 r.1.Zk,Zg Z8 43 u2 r.1.Code]):=by
 refine oq 124 Tryz.func122 fun w hV see pb=>?_;refine al fun b2=>?_;refine sj 5 [0,1,4] 27 ho ?_ ?_;rotate_left
 ·refine bb 22 (fun UF=>?_) fun UF=>?_
  ·exact jb (Vi UF)
  exact jb (Vj UF rfl)
 refine gg ?_;refine cb ho (fun ho=>?_) fun ho=>?_
 ·refine bd [nl,nl,i8 0,.bool false,i6 0,i6 0,i6 0,nl] ?_;refine st 0 ?_;exact sI ho▸rt (fun _ h=>sQ [2,1,0] (nO Z8 43 (nO kb 5 (nO kb 5 h))))
 refine bd [nl,nl,i8 0,.bool false,i6 0,i6 0,i6 0,nl] ?_;refine al fun b9=>?_;refine st 0 ?_;refine k1 YB.ok ho fun t11 ho v12=>?_;refine ci ho (fun ho=>?_) fun ho=>?_
 ·refine bd [nl,nl,i8 0,.bool false,i6 0,i6 0,i6 0,nl] ?_;refine st 2 ?_;exact sI ho▸rt (fun _ h=>sQ [2,1,0] (nO Z8 43 (nO kb 5 (nO kb 5 h))))
 refine k1 YB.ok ho fun t17 ho v18=>?_;refine ci ho (fun ho=>?_) fun ho=>?_
 ·refine bd [nl,nl,i8 0,.bool false,i6 0,i6 0,i6 0,nl] ?_;refine st 3 ?_;exact sI ho▸rt (fun _ h=>sQ [2,1,0] (nO Z8 43 (nO kb 5 (nO kb 5 h))))
 refine sh 1 fun Z5p=>?_;refine st 2 ?_;refine sh 0 fun Zh0=>?_;refine st 2 ?_;refine li ki ([1,1,3,2,2]:List Int) fun v23=>?_;refine li ki ([1,0,0,0,0]:List Int) fun v25=>?_;refine li ki ([2,1,1048576,256,1024]:List Int) fun v27=>?_;refine CP.rounds 7 ?_;refine LP.step (gg ?_);refine CP.W9 rfl rfl (gg ?_);obtain⟨x30,ZcK,ho⟩:=Yu ho;refine SP.Wo (fun w2 hw=>Zg.whole (St.own 2 rfl see.sub see.dj hw)) Tryz.underlying48 V4.h ZcK.1 ZcK.2 rfl rfl rfl rfl (fun p29 Zso=>?_);refine SP.val (Val.Vu (off:=0) (k:=ki) (fun w2 hw=>Zg.whole (St.own 2 rfl see.sub see.dj hw)) ZcK.2 Zso (fun _ _ e=>by subst e;rfl) Tryz.underlying3 rfl rfl) rfl rfl rfl ?_;refine kv ZN.ok ho fun t31 ho=>?_;refine ci ho (fun ho=>?_) fun ho=>?_
 ·refine bd [nl,nl,i8 0,.bool false,i6 0,i6 0,i6 0,nl] ?_;refine st 6 ?_;exact sI ho▸rt (fun _ h=>sQ [2,1,0] (nO Z8 43 (nO kb 5 (nO kb 5 h))))
 obtain⟨x36,ZcL,ho⟩:=Yu ho;refine SP.Wo (fun w2 hw=>Zg.whole (St.own 1 rfl see.sub see.dj hw)) Tryz.underlying48 V4.h ZcL.1 ZcL.2 rfl rfl rfl rfl (fun p35 Zsp=>?_);refine SP.val (Val.Vu (off:=0) (k:=ki) (fun w2 hw=>Zg.whole (St.own 1 rfl see.sub see.dj hw)) ZcL.2 Zsp (fun _ _ e=>by subst e;rfl) Tryz.underlying3 rfl rfl) rfl rfl rfl (gg ?_);obtain⟨t41,Z3t,ho⟩:=bind_some ho;refine sj 7 [0,4,7,12,13,14,15,16,17,18] 93 ho ?_ ?_;rotate_left
 ·refine bi 86 Z3t (fun Zw5 ho=>?_) fun Zw5 ho=>?_
  ·obtain rfl:=sI ho;exact jn
  obtain⟨x40,ZcM,ho⟩:=Yu ho;refine SP.Wo (fun w2 hw=>Zg.whole (St.own 0 rfl see.sub see.dj hw)) Tryz.underlying48 V4.h ZcM.1 ZcM.2 rfl rfl rfl rfl (fun p39 Zsq=>?_);refine SP.val (Val.Vu (off:=0) (k:=ki) (fun w2 hw=>Zg.whole (St.own 0 rfl see.sub see.dj hw)) ZcM.2 Zsq (fun _ _ e=>by subst e;rfl) Tryz.underlying3 rfl rfl) rfl rfl rfl (gg ?_);obtain rfl:=sI ho;exact jn
 clear Z3t;refine gg ?_;refine cb ho (fun ho=>?_) fun ho=>?_
 ·refine bd [nl,nl,i8 0,.bool false,i6 0,i6 0,i6 0,nl] ?_;refine st 6 ?_;exact sI ho▸rt (fun _ h=>sQ [2,1,0] (nO Z8 43 (nO kb 5 (nO kb 5 h))))
 refine li (h:=fun _=>id) ki [t31.1] fun v45=>?_;refine sn ki 3 ?_;refine fz 1 ?_;refine ap 0 0 ho fun v48 ho=>?_;refine QE.round ?_;refine LP.step (gg ?_);refine CP.W9 rfl rfl (gg ?_);obtain⟨x51,ZcN,ho⟩:=Yu ho;refine SP.Wo (fun w2 hw=>Zg.whole (St.own 3 rfl see.sub see.dj hw)) Tryz.underlying48 V4.h ZcN.1 ZcN.2 rfl rfl rfl rfl (fun p50 Zfj=>?_);refine SP.val (Val.Vu (off:=0) (k:=ki) (fun w2 hw=>Zg.whole (St.own 3 rfl see.sub see.dj hw)) ZcN.2 Zfj (fun _ _ e=>by subst e;rfl) Tryz.underlying3 rfl rfl) rfl rfl rfl ?_;refine kv ZN.ok ho fun t52 ho=>?_;refine ci ho (fun ho=>?_) fun ho=>?_
 ·refine bd [nl,nl,i8 0,.bool false,i6 0,i6 0,i6 0,nl] ?_;refine st 7 ?_;exact sI ho▸rt (fun _ h=>sQ [2,1,0] (nO Z8 43 (nO kb 5 (nO kb 5 h))))
 obtain⟨JZ,ZcO,ho⟩:=Yu ho;refine SP.Wo (fun w2 hw=>Zg.whole (St.own 2 rfl see.sub see.dj hw)) Tryz.underlying48 V4.h ZcO.1 ZcO.2 rfl rfl rfl rfl (fun p56 Zfr=>?_);refine SP.val (Val.Vu (off:=0) (k:=ki) (fun w2 hw=>Zg.whole (St.own 2 rfl see.sub see.dj hw)) ZcO.2 Zfr (fun _ _ e=>by subst e;rfl) Tryz.underlying3 rfl rfl) rfl rfl rfl (gg ?_);obtain⟨t62,Zh1,ho⟩:=bind_some ho;refine sj 7 [0,4,7,12,13,14,15,16,17,18] 93 ho ?_ ?_;rotate_left
 ·refine bi 86 Zh1 (fun Zw6 ho=>?_) fun Zw6 ho=>?_
  ·obtain rfl:=sI ho;exact jn
  obtain⟨Tk,ZcP,ho⟩:=Yu ho;refine SP.Wo (fun w2 hw=>Zg.whole (St.own 1 rfl see.sub see.dj hw)) Tryz.underlying48 V4.h ZcP.1 ZcP.2 rfl rfl rfl rfl (fun p60 Zfs=>?_);refine SP.val (Val.Vu (off:=0) (k:=ki) (fun w2 hw=>Zg.whole (St.own 1 rfl see.sub see.dj hw)) ZcP.2 Zfs (fun _ _ e=>by subst e;rfl) Tryz.underlying3 rfl rfl) rfl rfl rfl (gg ?_);obtain rfl:=sI ho;exact jn
 clear Zh1;refine gg ?_;refine cb ho (fun ho=>?_) fun ho=>?_
 ·refine bd [nl,nl,i8 0,.bool false,i6 0,i6 0,i6 0,nl] ?_;refine st 7 ?_;exact sI ho▸rt (fun _ h=>sQ [2,1,0] (nO Z8 43 (nO kb 5 (nO kb 5 h))))
 refine li (h:=fun _=>id) ki [t52.1] fun v66=>?_;refine fz 0 ?_;refine ap 0 0 ho fun v68 ho=>?_;refine QE.round ?_;refine LP.step (gg ?_);refine CP.W9 rfl rfl (gg ?_);obtain⟨x71,ZcQ,ho⟩:=Yu ho;refine SP.Wo (fun w2 hw=>Zg.whole (St.own 3 rfl see.sub see.dj hw)) Tryz.underlying48 V4.h ZcQ.1 ZcQ.2 rfl rfl rfl rfl (fun p70 Zsr=>?_);refine SP.val (Val.Vu (off:=0) (k:=ki) (fun w2 hw=>Zg.whole (St.own 3 rfl see.sub see.dj hw)) ZcQ.2 Zsr (fun _ _ e=>by subst e;rfl) Tryz.underlying3 rfl rfl) rfl rfl rfl ?_;refine kv ZN.ok ho fun t72 ho=>?_;refine ci ho (fun ho=>?_) fun ho=>?_
 ·refine bd [nl,nl,i8 0,.bool false,i6 0,i6 0,i6 0,nl] ?_;refine st 7 ?_;exact sI ho▸rt (fun _ h=>sQ [2,1,0] (nO Z8 43 (nO kb 5 (nO kb 5 h))))
 obtain⟨x77,ZcR,ho⟩:=Yu ho;refine SP.Wo (fun w2 hw=>Zg.whole (St.own 2 rfl see.sub see.dj hw)) Tryz.underlying48 V4.h ZcR.1 ZcR.2 rfl rfl rfl rfl (fun p76 Zft=>?_);refine SP.val (Val.Vu (off:=0) (k:=ki) (fun w2 hw=>Zg.whole (St.own 2 rfl see.sub see.dj hw)) ZcR.2 Zft (fun _ _ e=>by subst e;rfl) Tryz.underlying3 rfl rfl) rfl rfl rfl (gg ?_);obtain⟨t82,Zh2,ho⟩:=bind_some ho;refine sj 7 [0,4,7,12,13,14,15,16,17,18] 93 ho ?_ ?_;rotate_left
 ·refine bi 86 Zh2 (fun Zw7 ho=>?_) fun Zw7 ho=>?_
  ·obtain rfl:=sI ho;exact jn
  obtain⟨x81,ZcS,ho⟩:=Yu ho;refine SP.Wo (fun w2 hw=>Zg.whole (St.own 1 rfl see.sub see.dj hw)) Tryz.underlying48 V4.h ZcS.1 ZcS.2 rfl rfl rfl rfl (fun p80 Zss=>?_);refine SP.val (Val.Vu (off:=0) (k:=ki) (fun w2 hw=>Zg.whole (St.own 1 rfl see.sub see.dj hw)) ZcS.2 Zss (fun _ _ e=>by subst e;rfl) Tryz.underlying3 rfl rfl) rfl rfl rfl (gg ?_);obtain rfl:=sI ho;exact jn
 clear Zh2;refine gg ?_;refine cb ho (fun ho=>?_) fun ho=>?_
 ·refine bd [nl,nl,i8 0,.bool false,i6 0,i6 0,i6 0,nl] ?_;refine st 7 ?_;exact sI ho▸rt (fun _ h=>sQ [2,1,0] (nO Z8 43 (nO kb 5 (nO kb 5 h))))
 refine li (h:=fun _=>id) ki [t72.1] fun v86=>?_;refine fz 0 ?_;refine ap 0 0 ho fun v88 ho=>?_;refine QE.round ?_;refine LP.step (gg ?_);refine CP.W9 rfl rfl (gg ?_);obtain⟨x91,ZcT,ho⟩:=Yu ho;refine SP.Wo (fun w2 hw=>Zg.whole (St.own 3 rfl see.sub see.dj hw)) Tryz.underlying48 V4.h ZcT.1 ZcT.2 rfl rfl rfl rfl (fun p90 Zst=>?_);refine SP.val (Val.Vu (off:=0) (k:=ki) (fun w2 hw=>Zg.whole (St.own 3 rfl see.sub see.dj hw)) ZcT.2 Zst (fun _ _ e=>by subst e;rfl) Tryz.underlying3 rfl rfl) rfl rfl rfl ?_;refine kv ZN.ok ho fun Vv ho=>?_;refine ci ho (fun ho=>?_) fun ho=>?_
 ·refine bd [nl,nl,i8 0,.bool false,i6 0,i6 0,i6 0,nl] ?_;refine st 7 ?_;exact sI ho▸rt (fun _ h=>sQ [2,1,0] (nO Z8 43 (nO kb 5 (nO kb 5 h))))
 obtain⟨x97,Z4y,ho⟩:=Yu ho;refine SP.Wo (fun w2 hw=>Zg.whole (St.own 2 rfl see.sub see.dj hw)) Tryz.underlying48 V4.h Z4y.1 Z4y.2 rfl rfl rfl rfl (fun p96 Zfn=>?_);refine SP.val (Val.Vu (off:=0) (k:=ki) (fun w2 hw=>Zg.whole (St.own 2 rfl see.sub see.dj hw)) Z4y.2 Zfn (fun _ _ e=>by subst e;rfl) Tryz.underlying3 rfl rfl) rfl rfl rfl (gg ?_);obtain⟨Jz,Z5t,ho⟩:=bind_some ho;refine sj 7 [0,4,7,12,13,14,15,16,17,18] 93 ho ?_ ?_;rotate_left
 ·refine bi 86 Z5t (fun Zw8 ho=>?_) fun Zw8 ho=>?_
  ·obtain rfl:=sI ho;exact jn
  obtain⟨x101,Z35,ho⟩:=Yu ho;refine SP.Wo (fun w2 hw=>Zg.whole (St.own 1 rfl see.sub see.dj hw)) Tryz.underlying48 V4.h Z35.1 Z35.2 rfl rfl rfl rfl (fun Zn8 Z6O=>?_);refine SP.val (Val.Vu (off:=0) (k:=ki) (fun w2 hw=>Zg.whole (St.own 1 rfl see.sub see.dj hw)) Z35.2 Z6O (fun _ _ e=>by subst e;rfl) Tryz.underlying3 rfl rfl) rfl rfl rfl (gg ?_);obtain rfl:=sI ho;exact jn
 clear Z5t;refine gg ?_;refine cb ho (fun ho=>?_) fun ho=>?_
 ·refine bd [nl,nl,i8 0,.bool false,i6 0,i6 0,i6 0,nl] ?_;refine st 7 ?_;exact sI ho▸rt (fun _ h=>sQ [2,1,0] (nO Z8 43 (nO kb 5 (nO kb 5 h))))
 refine li (h:=fun _=>id) ki [Vv.1] fun Zn9=>?_;refine fz 0 ?_;refine ap 0 0 ho fun Zfh ho=>?_;refine QE.round ?_;refine LP.step (gg ?_);refine CP.W9 rfl rfl (gg ?_);obtain⟨Zn6,Za6,ho⟩:=Yu ho;refine SP.Wo (fun w2 hw=>Zg.whole (St.own 3 rfl see.sub see.dj hw)) Tryz.underlying48 V4.h Za6.1 Za6.2 rfl rfl rfl rfl (fun ZBW Zna=>?_);refine SP.val (Val.Vu (off:=0) (k:=ki) (fun w2 hw=>Zg.whole (St.own 3 rfl see.sub see.dj hw)) Za6.2 Zna (fun _ _ e=>by subst e;rfl) Tryz.underlying3 rfl rfl) rfl rfl rfl ?_;refine kv ZN.ok ho fun Z19 ho=>?_;refine ci ho (fun ho=>?_) fun ho=>?_
 ·refine bd [nl,nl,i8 0,.bool false,i6 0,i6 0,i6 0,nl] ?_;refine st 7 ?_;exact sI ho▸rt (fun _ h=>sQ [2,1,0] (nO Z8 43 (nO kb 5 (nO kb 5 h))))
 obtain⟨Jr,Za7,ho⟩:=Yu ho;refine SP.Wo (fun w2 hw=>Zg.whole (St.own 2 rfl see.sub see.dj hw)) Tryz.underlying48 V4.h Za7.1 Za7.2 rfl rfl rfl rfl (fun ZBX Znb=>?_);refine SP.val (Val.Vu (off:=0) (k:=ki) (fun w2 hw=>Zg.whole (St.own 2 rfl see.sub see.dj hw)) Za7.2 Znb (fun _ _ e=>by subst e;rfl) Tryz.underlying3 rfl rfl) rfl rfl rfl (gg ?_);obtain⟨Z6N,Zef,ho⟩:=bind_some ho;refine sj 7 [0,4,7,12,13,14,15,16,17,18] 93 ho ?_ ?_;rotate_left
 ·refine bi 86 Zef (fun Zsu ho=>?_) fun Zsu ho=>?_
  ·obtain rfl:=sI ho;exact jn
  obtain⟨Zn7,Za8,ho⟩:=Yu ho;refine SP.Wo (fun w2 hw=>Zg.whole (St.own 1 rfl see.sub see.dj hw)) Tryz.underlying48 V4.h Za8.1 Za8.2 rfl rfl rfl rfl (fun ZBY Znc=>?_);refine SP.val (Val.Vu (off:=0) (k:=ki) (fun w2 hw=>Zg.whole (St.own 1 rfl see.sub see.dj hw)) Za8.2 Znc (fun _ _ e=>by subst e;rfl) Tryz.underlying3 rfl rfl) rfl rfl rfl (gg ?_);obtain rfl:=sI ho;exact jn
 clear Zef;refine gg ?_;refine cb ho (fun ho=>?_) fun ho=>?_
 ·refine bd [nl,nl,i8 0,.bool false,i6 0,i6 0,i6 0,nl] ?_;refine st 7 ?_;exact sI ho▸rt (fun _ h=>sQ [2,1,0] (nO Z8 43 (nO kb 5 (nO kb 5 h))))
 refine li (h:=fun _=>id) ki [Z19.1] fun Za9=>?_;refine fz 0 ?_;refine ap 0 0 ho fun Zw9 ho=>?_;refine QE.round ?_;refine LP.step (gg ?_);refine CP.K4 rfl rfl (gg ?_);obtain⟨Z2F,Zaa,ho⟩:=Yu ho;refine SP.Wo (fun w2 hw=>Zg.whole (St.own 0 rfl see.sub see.dj hw)) Tryz.underlying48 V4.h Zaa.1 Zaa.2 rfl rfl rfl rfl (fun ZBZ Znd=>?_);refine SP.val (Val.Vu (off:=0) (k:=ki) (fun w2 hw=>Zg.whole (St.own 0 rfl see.sub see.dj hw)) Zaa.2 Znd (fun _ _ e=>by subst e;rfl) Tryz.underlying3 rfl rfl) rfl rfl rfl (gg ?_);refine st 6 ?_;obtain⟨Z2G,Zab,ho⟩:=Yu ho;refine SP.Wo (fun w2 hw=>Zg.whole (St.own 0 rfl see.sub see.dj hw)) Tryz.underlying48 V4.h Zab.1 Zab.2 rfl rfl rfl rfl (fun ZC0 Zne=>?_);refine SP.val (Val.Vu (off:=0) (k:=ki) (fun w2 hw=>Zg.whole (St.own 0 rfl see.sub see.dj hw)) Zab.2 Zne (fun _ _ e=>by subst e;rfl) Tryz.underlying3 rfl rfl) rfl rfl rfl (gg ?_);refine st 6 ?_;refine CP.Vk see 0 rfl ?_;refine dr ?_;refine ge 0 ho fun Zfq ho ZiL Zcz=>?_;refine gu 0 ?_;refine ge 2 ho fun Z0g ho ZiO Znf=>?_;refine gu 0 ?_;refine(DA.phase (fun i=>Nat.ble 0 i&&Nat.blt i 8) (fun w2=>St w em hV [atP ZiO [i6 Z0g],U8 ki ZiO Z0g,atP ZiL [i6 Zfq],U8 ki ZiL Zfq,Z9 ki Zw9 (((((([]:List Int) ++ [t31.1]) ++ [t52.1]) ++ [t72.1]) ++ [Vv.1]) ++ [Z19.1]),Z9 ki Za9 [Z19.1],Z9 ki Zn9 [Vv.1],Z9 ki v86 [t72.1],Z9 ki v66 [t52.1],Z9 ki v45 [t31.1],Z9 kb Yf Zx] [Zg ki 3 v27 ([2,1,1048576,256,1024]:List Int),Zg ki 3 v25 ([1,0,0,0,0]:List Int),Zg ki 3 v23 ([1,1,3,2,2]:List Int),Zg kb 5 v18 t17.1,Zg kb 5 v12 t11.1,Zl b2 [nl,nl,i8 0,.bool false,i6 0,i6 0,i6 0,nl] 34] w2) ?_);refine ts 0 [0,1,2,3,4,6] ?_;refine DT.ts 1 rfl (Val.ie rfl rfl Zcz) (sO [0,1,2,3,4,6]) ?_;refine ts 2 [0,1,2,3,4,6] ?_;refine ts 3 [0,1,2,3,4,6] ?_;refine DT.ts 4 rfl (Val.ie rfl rfl Znf) (sO [0,1,2,3,4,6]) ?_;refine ts 5 [0,1,2,3,4,6] ?_;refine ts 6 [0,1,2,3,4,6] ?_;refine DT.one 7 rfl (by kernel_rfl) rfl ?_;refine st 5 ?_;refine QE.Vq (fun w2 hw=>(sQ [0,1,2,3,4,6] hw)) ?_;refine dn ?_;refine d1 8 ?_;refine d1 9 ?_;refine st 5 ?_;refine dz ?_;refine ip 4 ho fun Z1a ho ZC1=>?_;refine st 5 ?_;refine sh (h:=id) 4 fun Z5p=>?_;refine sh 3 fun Zh0=>?_;refine st 6 ?_;exact sI ho▸rt (fun _ h=>sQ [5,4,0] (nO Z8 43 h))
def VU.f(Zn:Int):Option Bool:=
  some (decide (Zn<33))
theorem VU.ok{Zn}(r)(ho:VU.f Zn=some r):Ok Tryz.prog 180 [i8 Zn] [] fun v=>HO.pure (v=.bool r):=by
 refine oq 5 Tryz.func180 fun w hV see pb=>?_;exact sI ho▸rt
def YC.j3(Zn:Int)(b3:Bool):Option (Int×Int):=
  if b3=true then(some (0,199))else(if Zn=32 then(some (0,255))else(if Zn=28 then(some (1,100))else((VU.f Zn).bind fun t4=>if(!t4)=true then(some (0,(-1)))else(some (0,0)))))
def YC.j2(Zn:Int)(b2:Bool):Option (Int×Int):=
  if b2=true then(some (0,3))else(if Zn=22 then(some (0,1024))else(if Zn=26 then(YC.j3 Zn (decide (Zn=26)))else(if Zn=27 then(YC.j3 Zn (decide (Zn=27)))else(YC.j3 Zn (decide (Zn=29))))))
def YC.j1(Zn:Int)(b1:Bool):Option (Int×Int):=
  if b1=true then(some (0,15))else(if Zn=4 then(YC.j2 Zn (decide (Zn=4)))else(YC.j2 Zn (decide (Zn=5))))
def YC.f(Zn:Int):Option (Int×Int):=
  if Zn=1 then(some (0,31))else(if Zn=2 then(YC.j1 Zn (decide (Zn=2)))else(if Zn=3 then(YC.j1 Zn (decide (Zn=3)))else(YC.j1 Zn (decide (Zn=30)))))
theorem YC.ok{Zn}(r)(ho:YC.f Zn=some r):Ok Tryz.prog 213 [i8 Zn] [] fun v=>HO.pure (v=.tuple #[i6 r.1,i6 r.2]):=by
 refine oq 27 Tryz.func213 fun w hV see pb=>?_;refine ci (hf:=id) ho (fun ho=>?_) fun ho=>?_
 ·exact sI ho▸rt
 refine oi r (fun z=>∃b1,z (YC.j1 Zn b1) [(0,i8 Zn),(4,i8 Zn),(7,.bool b1)] []) ?_ ?_;rotate_left
 ·refine gg ?_;refine ci ho (fun ho=>?_) fun ho=>?_
  ·exact mo ho (fun _ z=>⟨(decide (Zn=2)),z⟩)
  refine ci ho (fun ho=>?_) fun ho=>?_
  ·exact mo ho (fun _ z=>⟨(decide (Zn=3)),z⟩)
  exact mo ho (fun _ z=>⟨(decide (Zn=30)),z⟩)
 rintro _ _ ⟨b1,ho,h⟩;refine en h ?_;refine cb (hf:=id) ho (fun ho=>?_) fun ho=>?_
 ·exact sI ho▸rt
 refine oi r (fun z=>∃b2,z (YC.j2 Zn b2) [(0,i8 Zn),(4,i8 Zn),(11,.bool b2)] []) ?_ ?_;rotate_left
 ·refine gg ?_;refine ci ho (fun ho=>?_) fun ho=>?_
  ·exact mo ho (fun _ z=>⟨(decide (Zn=4)),z⟩)
  exact mo ho (fun _ z=>⟨(decide (Zn=5)),z⟩)
 rintro _ _ ⟨b2,ho,h⟩;refine en h ?_;refine cb ho (fun ho=>?_) fun ho=>?_
 ·exact sI ho▸rt
 refine ci (hf:=id) ho (fun ho=>?_) fun ho=>?_
 ·exact sI ho▸rt
 refine oi r (fun z=>∃b3,z (YC.j3 Zn b3) [(0,i8 Zn),(4,i8 Zn),(16,.bool b3)] []) ?_ ?_
 ·rintro _ _ ⟨b3,ho,h⟩;refine en h ?_;refine cb ho (fun ho=>?_) fun ho=>?_
  ·exact sI ho▸rt
  refine ci ho (fun ho=>?_) fun ho=>?_
  ·exact sI ho▸rt
  refine ci ho (fun ho=>?_) fun ho=>?_
  ·exact sI ho▸rt
  refine kv VU.ok ho fun t4 ho=>?_;refine cb ho (fun ho=>?_) fun ho=>?_
  ·exact sI ho▸rt
  exact sI ho▸rt
 refine gg ?_;refine ci ho (fun ho=>?_) fun ho=>?_
 ·exact mo ho (fun _ z=>⟨(decide (Zn=26)),z⟩)
 refine ci ho (fun ho=>?_) fun ho=>?_
 ·exact mo ho (fun _ z=>⟨(decide (Zn=27)),z⟩)
 exact mo ho (fun _ z=>⟨(decide (Zn=29)),z⟩)
def Uc.f(Zn:Int):Option Bool:=
  (YC.f Zn).bind fun t1=>some (decide (t1.2>0))
theorem Uc.ok{Zn}(r)(ho:Uc.f Zn=some r):Ok Tryz.prog 181 [i8 Zn] [] fun v=>HO.pure (v=.bool r):=by
 refine oq 12 Tryz.func181 fun w hV see pb=>?_;refine kv YC.ok ho fun t1 ho=>?_;exact sI ho▸rt
def VF.f(Vd:Z7):Option Bool:=
  (YC.f Vd.Op).bind fun t3=>some (((decide (Vd.B=0))&&(decide (t3.1≤Vd.A)))&&(decide (Vd.A≤t3.2)))
theorem VF.ok{Vd}(r)(ho:VF.f Vd=some r):Ok Tryz.prog 160 [.agg #[i8 Vd.Op,i6 Vd.A,i6 Vd.B]] [] fun v=>HO.pure (v=.bool r):=by
 refine oq 26 Tryz.func160 fun w hV see pb=>?_;refine bx fun b1=>?_;refine kv YC.ok ho fun t3 ho=>?_;refine SP.jn 5 [1,4] 19 (.bool ((decide (Vd.B=0))&&(decide (t3.1≤Vd.A)))) ?_ ?_
 ·refine gg ?_;refine SP.jn 5 [] 25 (.bool (((decide (Vd.B=0))&&(decide (t3.1≤Vd.A)))&&(decide (Vd.A≤t3.2)))) ?_ ?_
  ·refine gg ?_;exact sI ho▸rt
  refine bb 20 (fun VP=>?_) fun VP=>?_
  ·exact jb (WH VP rfl)
  exact jb (WI VP)
 refine bb 14 (fun UF=>?_) fun UF=>?_
 ·exact jb (WH UF rfl)
 exact jb (WI UF)
inductive Yi.S where
  |start
  |l1 (x8 x42:Int) (l44:List Z7)
def Yi.j1(Zx:List Int)(a1 x8:Int)(l44:List Z7)(x50 x65 x66:Int):Option (Yi.S⊕((List Z7)×Int×Int)):=
  (VF.f (⟨x50,x66,0⟩:Z7)).bind fun t68=>if(!t68)=true then(some (.inr ([],0,40)))else(if(l44.length + [(⟨x50,x66,0⟩:Z7)].length)*24≤140737488355328 then(some (.inl (.l1 x8 x65 (l44 ++ [(⟨x50,x66,0⟩:Z7)]))))else none)
def Yi.F(Zx:List Int)(a1:Int):Yi.S→Option (Yi.S⊕((List Z7)×Int×Int))
  | .start=>if((decide (a1<0))||(decide (a1>(Zx.length:Int))))=true then(some (.inr ([],0,2)))else(if a1=(Zx.length:Int)then(some (.inr ([],0,10)))else((elt Zx a1).bind fun x8=>if((decide ((IntKind.i64.wrap x8)<1))||(decide ((IntKind.i64.wrap x8)>200)))=true then(some (.inr ([],0,40)))else(some (.inl (.l1 x8 (IntKind.i64.wrap (a1+1)) [])))))
  | .l1 x8 x42 l44=>if(l44.length:Int)<(IntKind.i64.wrap x8)then(if x42≥(Zx.length:Int)then(some (.inr ([],0,10)))else((elt Zx x42).bind fun x50=>(VU.f x50).bind fun t53=>if(!t53)=true then(some (.inr ([],0,40)))else((Uc.f x50).bind fun t55=>if t55=true then(if(IntKind.i64.wrap ((Zx.length:Int)-(IntKind.i64.wrap (x42+1))))<2 then(some (.inr ([],0,10)))else((elt Zx (IntKind.i64.wrap (x42+1))).bind fun x59=>(elt Zx (IntKind.i64.wrap ((IntKind.i64.wrap (x42+1))+1))).bind fun x63=>Yi.j1 Zx a1 x8 l44 x50 (IntKind.i64.wrap ((IntKind.i64.wrap (x42+1))+2)) (IntKind.i64.wrap ((IntKind.i64.wrap x59)+(IntKind.i64.wrap (256*(IntKind.i64.wrap x63)))))))else(Yi.j1 Zx a1 x8 l44 x50 (IntKind.i64.wrap (x42+1)) 0))))else(some (.inr (l44,x42,0)))
def Yi.f(Zx:List Int)(a1:Int):Option ((List Z7)×Int×Int):=Zw (Yi.F Zx a1) .start
theorem Yi.ok{Zx a1 Yf}(r)(H:Yi.f Zx a1=some r):Ok Tryz.prog 123 [Yf,i6 a1] [Z9 kb Yf Zx] fun v=>HO.ex fun u0:Value=>HO.Yr (v=.tuple #[u0,i6 r.2.1,i6 r.2.2]) (HO.Yk [Zg Z8 43 u0 r.1]):=by
 refine oq 87 Tryz.func123 fun w hV see pb=>?_;obtain⟨m0,o,ho,hr⟩:=rn H;refine sj 5 [0,1] 17 ho ?_ ?_;rotate_left
 ·refine bb 12 (fun hq3=>?_) fun hq3=>?_
  ·exact jb (Vi hq3)
  exact jb (Vj hq3 rfl)
 refine gg ?_;refine cb ho (fun ho=>?_) fun ho=>?_
 ·exact fin ho hr▸rt (fun _ h=>sQ [0] (nO Z8 43 h))
 refine ci ho (fun ho=>?_) fun ho=>?_
 ·exact fin ho hr▸rt (fun _ h=>sQ [0] (nO Z8 43 h))
 refine ip 0 ho fun x8 ho p6=>?_;refine sj 3 [0,1,7] 34 ho ?_ ?_;rotate_left
 ·refine bb 31 (fun Z5P=>?_) fun Z5P=>?_
  ·exact jb (Vi Z5P)
  exact jb (Vj Z5P rfl)
 refine gg ?_;refine cb ho (fun ho=>?_) fun ho=>?_
 ·exact fin ho hr▸rt (fun _ h=>sQ [0] (nO Z8 43 h))
 refine lo ho hr (fun z=>∃x42 l44 v45,z (.l1 x8 x42 l44) [(0,Yf),(1,i6 x42),(7,i6 (wr x8)),(8,v45)] [Zg Z8 43 v45 l44]) (fun _ z=>⟨(wr (a1+1)),[],nl,z⟩) ?_ (fun _ hw=>(nO Z8 43 hw));rintro _ _ _ ⟨x42,l44,v45,m46,o,_,_,ho,hr,h⟩;refine en h ?_;refine ci ho (fun ho=>?_) fun ho=>?_;rotate_left
 ·exact fin ho hr▸rt (sO [0])
 refine ci ho (fun ho=>?_) fun ho=>?_
 ·exact fin ho hr▸rt (fun _ h=>sQ [0] (nO Z8 43 h))
 refine ip 0 ho fun x50 ho p48=>?_;refine bd [i8 x50,i6 0,i6 0] ?_;refine al fun b51=>?_;refine st 0 ?_;refine kv VU.ok ho fun t53 ho=>?_;refine cb (hf:=id) ho (fun ho=>?_) fun ho=>?_
 ·exact fin ho hr▸rt (fun _ h=>sQ [0] (nO Z8 43 h))
 refine go ?_;refine ji hr (fun z=>∃x65 x66,z (Yi.j1 Zx a1 x8 l44 x50 x65 x66) [(0,Yf),(1,i6 x65),(7,i6 (wr x8)),(8,v45),(9,pt b51)] [Zl b51 [i8 x50,i6 x66,i6 0] 43,Zg Z8 43 v45 l44]) ?_ ?_
 ·rintro _ _ ⟨x65,x66,m67,o,_,ho,hr,h⟩;refine en h ?_;refine kv VF.ok ho fun t68 ho=>?_;refine cb ho (fun ho=>?_) fun ho=>?_
  ·exact fin ho hr▸rt (fun _ h=>sQ [0] (nO Z8 43 h))
  refine li (h:=fun _=>id) Z8 [(⟨x50,x66,0⟩:Z7)] fun v70=>?_;refine fz 0 ?_;refine ap 1 0 ho fun v72 ho=>?_;exact lw ho hr (fun _ z=>⟨x65,(l44 ++ [(⟨x50,x66,0⟩:Z7)]),v72,z⟩) (sO [1])
 refine gg ?_;refine kv Uc.ok ho fun t55 ho=>?_;refine cb ho (fun ho=>?_) fun ho=>?_;rotate_left
 ·exact mi ho hr (fun _ z=>⟨(wr (x42+1)),0,z⟩)
 refine ci ho (fun ho=>?_) fun ho=>?_
 ·exact fin ho hr▸rt (fun _ h=>sQ [0] (nO Z8 43 h))
 refine dr ?_;refine ge 1 ho fun x59 ho p57 Zsv=>?_;refine gu 0 ?_;refine ge 3 ho fun x63 ho p61 Z9b=>?_;refine gu 0 ?_;refine DA.ph 0 12 ?_;refine DT.tk 0 ?_;refine DT.tk 1 ?_;refine DT.tv 2 rfl (Val.ie rfl rfl Zsv) ?_;refine tk 3 ?_;refine tk 4 ?_;refine DT.tk 5 ?_;refine DT.tk 6 ?_;refine DT.tk 7 ?_;refine DT.tv 8 rfl (Val.ie rfl rfl Z9b) ?_;refine tk 9 ?_;refine tk 10 ?_;refine DT.tk 11 ?_;refine dn ?_;refine d1 12 ?_;refine d1 13 ?_;refine d1 14 ?_;refine st 0 ?_;refine dz ?_;exact mi ho hr (fun _ z=>⟨(wr ((wr (x42+1))+2)),(wr ((wr x59)+(wr (256*(wr x63))))),z⟩)
inductive ZX.S where
  |start
  |l1 (t9 Te:(List Zp)×Int×Int) (t24:Int×Int×Int) (x71:Int) (l73:List Zb)
def ZX.j1(Zx:List Int)(t9 Te:(List Zp)×Int×Int)(l73:List Zb)(Z3F:Int):Option (ZX.S⊕(Zc×Int)):=
  some (.inr ((⟨t9.1,Te.1,l73,Z3F⟩:Zc),0))
def ZX.F(Zx:List Int):ZX.S→Option (ZX.S⊕(Zc×Int))
  | .start=>if(Zx.length:Int)>2000 then(some (.inr ((⟨[],[],[],0⟩:Zc),3)))else((X8.f Zx 0).bind fun t9=>if t9.2.2≠0 then(some (.inr ((⟨[],[],[],0⟩:Zc),t9.2.2)))else(if(t9.1.length:Int)>4 then(some (.inr ((⟨[],[],[],0⟩:Zc),80)))else((X8.f Zx t9.2.1).bind fun Te=>if Te.2.2≠0 then(some (.inr ((⟨[],[],[],0⟩:Zc),Te.2.2)))else((ZN.f Zx Te.2.1 1).bind fun t24=>if t24.2.2≠0 then(some (.inr ((⟨[],[],[],0⟩:Zc),t24.2.2)))else(if t24.1>16 then(some (.inr ((⟨[],[],[],0⟩:Zc),80)))else(some (.inl (.l1 t9 Te t24 t24.2.1 []))))))))
  | .l1 t9 Te t24 x71 l73=>if(l73.length:Int)<t24.1 then((Ub.f Zx x71).bind fun t76=>if t76.2.2≠0 then(some (.inr ((⟨[],[],[],0⟩:Zc),t76.2.2)))else((Yi.f Zx t76.2.1).bind fun t88=>if t88.2.2≠0 then(some (.inr ((⟨[],[],[],0⟩:Zc),t88.2.2)))else(if(l73.length + [(⟨t76.1.Args,t76.1.Zk,t76.1.Result,t76.1.Reads,t76.1.Fuel,t76.1.Stack,t76.1.Heap,t88.1⟩:Zb)].length)*104≤140737488355328 then(some (.inl (.l1 t9 Te t24 t88.2.1 (l73 ++ [(⟨t76.1.Args,t76.1.Zk,t76.1.Result,t76.1.Reads,t76.1.Fuel,t76.1.Stack,t76.1.Heap,t88.1⟩:Zb)]))))else none)))else((ZN.f Zx x71 1).bind fun t98=>if t98.2.2≠0 then(some (.inr ((⟨[],[],[],0⟩:Zc),t98.2.2)))else(if(((decide (t98.1≥t24.1))&&(decide (t98.1≠255)))||(decide (t98.2.1<(Zx.length:Int))))=true then(some (.inr ((⟨[],[],[],0⟩:Zc),80)))else(if t98.1=255 then(ZX.j1 Zx t9 Te l73 (-1))else(ZX.j1 Zx t9 Te l73 t98.1))))
def ZX.f(Zx:List Int):Option (Zc×Int):=Zw (ZX.F Zx) .start
theorem ZX.ok{Zx Yf}(r)(H:ZX.f Zx=some r):Ok Tryz.prog 60 [Yf] [Z9 kb Yf Zx] fun v=>HO.ex fun u0:Value=>HO.ex fun u1:Value=>HO.ex fun u2:Value=>HO.Yr (v=.tuple #[.agg #[u0,u1,u2,i6 r.1.Zo],i6 r.2]) (HO.Yk [Zg Z4 100 u0 r.1.ZA,Zg Z4 100 u1 r.1.Pool,Vf YI 34 u2 r.1.Methods]):=by
 refine oq 132 Tryz.func60 fun w hV see pb=>?_;obtain⟨m0,o,ho,hr⟩:=rn H;refine al fun b2=>?_;refine bd [nl,nl,nl,i6 0] ?_;refine al fun b4=>?_;refine st 0 ?_;refine ci ho (fun ho=>?_) fun ho=>?_
 ·refine st 1 ?_;exact fin ho hr▸rt (fun _ h=>sQ [2,1,0] (St.Tc (Vf.nil YI 34) (nO Z4 100 (nO Z4 100 h))))
 refine k1 X8.ok ho fun t9 ho v10=>?_;refine ci ho (fun ho=>?_) fun ho=>?_
 ·refine st 2 ?_;exact fin ho hr▸rt (fun _ h=>sQ [2,1,0] (St.Tc (Vf.nil YI 34) (nO Z4 100 (nO Z4 100 h))))
 refine ci ho (fun ho=>?_) fun ho=>?_
 ·refine st 2 ?_;exact fin ho hr▸rt (fun _ h=>sQ [2,1,0] (St.Tc (Vf.nil YI 34) (nO Z4 100 (nO Z4 100 h))))
 refine k1 X8.ok ho fun Te ho v19=>?_;refine ci ho (fun ho=>?_) fun ho=>?_
 ·refine st 3 ?_;exact fin ho hr▸rt (fun _ h=>sQ [2,1,0] (St.Tc (Vf.nil YI 34) (nO Z4 100 (nO Z4 100 h))))
 refine kv ZN.ok ho fun t24 ho=>?_;refine ci ho (fun ho=>?_) fun ho=>?_
 ·refine st 3 ?_;exact fin ho hr▸rt (fun _ h=>sQ [2,1,0] (St.Tc (Vf.nil YI 34) (nO Z4 100 (nO Z4 100 h))))
 refine ci ho (fun ho=>?_) fun ho=>?_
 ·refine st 3 ?_;exact fin ho hr▸rt (fun _ h=>sQ [2,1,0] (St.Tc (Vf.nil YI 34) (nO Z4 100 (nO Z4 100 h))))
 refine sh (h:=id) 1 fun Z95=>?_;refine sh 0 fun ZcU=>?_;refine bd [v10,v19,nl,i6 0] ?_;refine al (h:=fun _=>id) fun b31=>?_;refine sh (h:=id) 2 fun Z95=>?_;refine sh 1 fun ZcU=>?_;refine st 0 ?_;refine lo ho hr (fun z=>∃x71 l73 v74,z (.l1 t9 Te t24 x71 l73) [(0,Yf),(2,pt b2),(4,pt b4),(6,i6 x71),(9,i6 t24.1),(10,pt b31)] [Vf YI 34 v74 l73,Zl b31 [v10,v19,v74,i6 0] 25,Zg Z4 100 v19 Te.1,Zg Z4 100 v10 t9.1,Zl b4 [nl,nl,nl,i6 0] 25,Zl b2 [nl,nl,nl,i6 0] 25]) (fun _ z=>⟨t24.2.1,[],nl,z⟩) ?_ (fun _ hw=>(St.Tc (Vf.nil YI 34) hw));rintro _ _ _ ⟨x71,l73,v74,m75,o,_,_,ho,hr,h⟩;refine en h ?_;refine SP.val (Val.ZtL (fun w2 hw=>Vf.flat (St.own 0 rfl see.sub see.dj hw) (Sub.refl _) (Sub.refl _)) Tryz.underlying23 rfl) rfl rfl rfl (gg ?_);refine ci ho (fun ho=>?_) fun ho=>?_
 ·refine k3 Ub.ok ho fun t76 ho v77 v78 v79=>?_;refine al (h:=fun _=>id) fun b83=>?_;refine sh (h:=id) 1 fun Zh3=>?_;refine sh (h:=id) 2 fun Zh4=>?_;refine sh 3 fun Zy5=>?_;refine st 0 ?_;refine ci ho (fun ho=>?_) fun ho=>?_
  ·refine st 9 ?_;exact fin ho hr▸rt (fun _ h=>sQ [2,1,0] (St.Tc (Vf.nil YI 34) (nO Z4 100 (nO Z4 100 h))))
  refine k1 Yi.ok ho fun t88 ho v89=>?_;refine ci ho (fun ho=>?_) fun ho=>?_
  ·refine st 10 ?_;exact fin ho hr▸rt (fun _ h=>sQ [2,1,0] (St.Tc (Vf.nil YI 34) (nO Z4 100 (nO Z4 100 h))))
  refine sh 0 fun Zh5=>?_;refine st 1 ?_;refine sh (h:=id) 2 fun Zh3=>?_;refine sh (h:=id) 3 fun Zh4=>?_;refine sh 0 fun Zh5=>?_;refine SP.lit (k:=Z55 8) (xs:=[[v77,v78,i8 t76.1.Result,.bool t76.1.Reads,i6 t76.1.Fuel,i6 t76.1.Stack,i6 t76.1.Heap,v89]]) (vs:=[.agg #[v77,v78,i8 t76.1.Result,.bool t76.1.Reads,i6 t76.1.Fuel,i6 t76.1.Stack,i6 t76.1.Heap,v89]]) (cells:=[v77,v78,i8 t76.1.Result,.bool t76.1.Reads,i6 t76.1.Fuel,i6 t76.1.Stack,i6 t76.1.Heap,v89]) Tryz.underlying23 Zbt.h rfl rfl rfl rfl rfl rfl rfl rfl (fun _ ap=>⟨[v77,v78,i8 t76.1.Result,.bool t76.1.Reads,i6 t76.1.Fuel,i6 t76.1.Stack,i6 t76.1.Heap,v89],_,rfl,⟨rfl,rfl,VD Zh3 (VD Zh4 (VD rfl (VD rfl (VD rfl (VD rfl (VD rfl (VD Zh5 (rfl))))))))⟩,rfl⟩) rfl rfl rfl (fun v94=>?_);refine SP.imp (fun w2 hw=>St.ZlF (k:=YI) (c:=[v77,v78,i8 t76.1.Result,.bool t76.1.Reads,i6 t76.1.Fuel,i6 t76.1.Stack,i6 t76.1.Heap,v89]) (x0:=(⟨t76.1.Args,t76.1.Zk,t76.1.Result,t76.1.Reads,t76.1.Fuel,t76.1.Stack,t76.1.Heap,t88.1⟩:Zb)) [Zg kb 5 v77 t76.1.Args,Zg kb 5 v78 t76.1.Zk,Zg Z8 43 v89 t88.1] (sQ [0,3,4,1,2,5,6,7,8,9,10,11] hw) (fun a b q=>⟨_,_,_,rfl,q⟩)) ?_;refine so [3,0,1,2,4,5,6,7,8] ?_;obtain⟨hb,ho⟩:=Xn ho;refine SP.ZdS see Tryz.underlying23 Zbt.h rfl rfl hb rfl rfl rfl rfl rfl (fun v96=>?_);clear hb;refine gg ?_;refine SP.have (fun w2 hw=>Vf.shape (St.own 0 rfl see.sub see.dj hw)) (fun Zmx=>?_);refine st 3 ?_;exact lw ho hr (fun _ z=>⟨t88.2.1,(l73 ++ [(⟨t76.1.Args,t76.1.Zk,t76.1.Result,t76.1.Reads,t76.1.Fuel,t76.1.Stack,t76.1.Heap,t88.1⟩:Zb)]),v96,z⟩) (sO [0,3,4,5,6,7])
 refine kv ZN.ok ho fun t98 ho=>?_;refine ci ho (fun ho=>?_) fun ho=>?_
 ·refine st 5 ?_;exact fin ho hr▸rt (fun _ h=>sQ [2,1,0] (St.Tc (Vf.nil YI 34) (nO Z4 100 (nO Z4 100 h))))
 refine SP.jn 3 [0,2,4,6,10,17] 118 (.bool ((decide (t98.1≥t24.1))&&(decide (t98.1≠255)))) ?_ ?_;rotate_left
 ·refine bb 115 (fun Zfu=>?_) fun Zfu=>?_
  ·exact jb (WH Zfu rfl)
  exact jb (WI Zfu)
 refine gg ?_;refine sj 5 [2,4,10,17] 124 ho ?_ ?_;rotate_left
 ·refine bb 119 (fun Zfv=>?_) fun Zfv=>?_
  ·exact jb (Vi Zfv)
  exact jb (Vj Zfv rfl)
 refine gg ?_;refine cb ho (fun ho=>?_) fun ho=>?_
 ·refine st 5 ?_;exact fin ho hr▸rt (fun _ h=>sQ [2,1,0] (St.Tc (Vf.nil YI 34) (nO Z4 100 (nO Z4 100 h))))
 refine st (h:=id) 1 ?_;refine go ?_;refine ji hr (fun z=>∃Z3F,z (ZX.j1 Zx t9 Te l73 Z3F) [(2,pt b2),(10,pt b31)] [Vf YI 34 v74 l73,Zl b31 [v10,v19,v74,i6 Z3F] 25,Zg Z4 100 v19 Te.1,Zg Z4 100 v10 t9.1,Zl b2 [nl,nl,nl,i6 0] 25]) ?_ ?_ (hb:=pe [])
 ·rintro _ _ ⟨Z3F,ZC2,o,_,ho,hr,h⟩;refine en h ?_;refine sh (h:=id) 3 fun Z95=>?_;refine sh (h:=id) 2 fun ZcU=>?_;refine SP.have (fun w2 hw=>Vf.shape (St.own 0 rfl see.sub see.dj hw)) (fun Zy6=>?_);refine st 4 ?_;exact fin ho hr▸rt (sO [3,2,0])
 refine gg ?_;refine ci ho (fun ho=>?_) fun ho=>?_
 ·refine st 1 ?_;exact mi ho hr (fun _ z=>⟨(-1),z⟩) (sO [0,1,2,3,5])
 exact mi ho hr (fun _ z=>⟨t98.1,z⟩) (sO [0,1,2,3,5])
def KX.f(a_0 b_1:Int):Option Bool:=
  some ((((decide (a_0≥(-1048576)))&&(decide (a_0≤1048576)))&&(decide (b_1≥(-1048576))))&&(decide (b_1≤1048576)))
theorem KX.ok{a_0 b_1}(r)(ho:KX.f a_0 b_1=some r):Ok Tryz.prog 255 [i6 a_0,i6 b_1] [] fun v=>HO.pure (v=.bool r):=by
 refine oq 19 Tryz.func255 fun w hV see pb=>?_;refine SP.jn 3 [1] 10 (.bool ((decide (a_0≥(-1048576)))&&(decide (a_0≤1048576)))) ?_ ?_;rotate_left
 ·refine bb 7 (fun hq2=>?_) fun hq2=>?_
  ·exact jb (WH hq2 rfl)
  exact jb (WI hq2)
 refine gg ?_;refine SP.jn 3 [1] 14 (.bool (((decide (a_0≥(-1048576)))&&(decide (a_0≤1048576)))&&(decide (b_1≥(-1048576))))) ?_ ?_
 ·refine gg ?_;refine SP.jn 3 [] 18 (.bool ((((decide (a_0≥(-1048576)))&&(decide (a_0≤1048576)))&&(decide (b_1≥(-1048576))))&&(decide (b_1≤1048576)))) ?_ ?_
  ·refine gg ?_;exact sI ho▸rt
  refine bb 15 (fun hq6=>?_) fun hq6=>?_
  ·exact jb (WH hq6 rfl)
  exact jb (WI hq6)
 refine bb 11 (fun hq4=>?_) fun hq4=>?_
 ·exact jb (WH hq4 rfl)
 exact jb (WI hq4)
def Uk.f(Xx:Zp):Option Bool:=
  (if((decide (Xx.Kind=1))&&(decide (Xx.B=0)))=true then(some true)else((if Xx.Kind=2 then((KX.f Xx.A Xx.B).bind fun t9=>some t9)else(some false)).bind fun t10=>some t10)).bind fun t11=>some t11
theorem Uk.ok{Xx}(r)(ho:Uk.f Xx=some r):Ok Tryz.prog 246 [.agg #[i8 Xx.Kind,i6 Xx.A,i6 Xx.B]] [] fun v=>HO.pure (v=.bool r):=by
 refine oq 23 Tryz.func246 fun w hV see pb=>?_;refine bx fun b1=>?_;refine SP.jn 4 [1] 10 (.bool ((decide (Xx.Kind=1))&&(decide (Xx.B=0)))) ?_ ?_;rotate_left
 ·refine bb 6 (fun hq4=>?_) fun hq4=>?_
  ·exact jb (WH hq4 rfl)
  exact jb (WI hq4)
 refine gg ?_;obtain⟨t11,Z6P,ho⟩:=bind_some ho;refine SP.jn 11 [] 22 (.bool t11) ?_ ?_
 ·clear Z6P;refine gg ?_;exact sI ho▸rt
 refine bc 11 Z6P (fun hq6 ho=>?_) fun hq6 ho=>?_
 ·obtain rfl:=sI ho;exact jn
 obtain⟨t10,Z3r,ho⟩:=bind_some ho;refine SP.jn 6 [11] 21 (.bool t10) ?_ ?_
 ·clear Z3r;refine gg ?_;obtain rfl:=sI ho;exact jn
 refine bi 15 Z3r (fun hq8 ho=>?_) fun hq8 ho=>?_
 ·refine kv KX.ok ho fun t9 ho=>?_;obtain rfl:=sI ho;exact jn
 obtain rfl:=sI ho;exact jn
inductive Wj.S where
  |start
  |l1 (x9:Int)
def Wj.F(ZC:List Zp):Wj.S→Option (Wj.S⊕Bool)
  | .start=>some (.inl (.l1 0))
  | .l1 x9=>if((decide (x9<(ZC.length:Int)))&&(decide (x9≤32)))=true then((elt ZC x9).bind fun Uh=>(Uk.f Uh).bind fun t16=>if(!t16)=true then(some (.inr false))else(some (.inl (.l1 (IntKind.i64.wrap (x9+1))))))else(some (.inr (decide ((ZC.length:Int)≤32))))
def Wj.f(ZC:List Zp):Option Bool:=Zw (Wj.F ZC) .start
theorem Wj.ok{ZC Yt}(r)(H:Wj.f ZC=some r):Ok Tryz.prog 209 [Yt] [Z9 Z4 Yt ZC] fun v=>HO.pure (v=.bool r):=by
 refine oq 23 Tryz.func209 fun w hV see pb=>?_;obtain⟨m0,o,ho,hr⟩:=rn H;refine lo ho hr (fun z=>∃x9,z (.l1 x9) [(0,Yt),(3,i6 x9)] []) (fun _ z=>⟨0,z⟩) ?_;rintro _ _ _ ⟨x9,m10,o,_,_,ho,hr,h⟩;refine en h ?_;refine sj 3 [0,3] 11 ho ?_ ?_
 ·refine gg ?_;refine cb ho (fun ho=>?_) fun ho=>?_
  ·refine ip 0 ho fun Uh ho p13=>?_;refine ld 0 ?_;refine kv Uk.ok ho fun t16 ho=>?_;refine cb ho (fun ho=>?_) fun ho=>?_
   ·exact fin ho hr▸rt
   exact lw ho hr (fun _ z=>⟨(wr (x9+1)),z⟩)
  exact fin ho hr▸rt
 refine bb 8 (fun hq12=>?_) fun hq12=>?_
 ·exact jb (WH hq12 rfl)
 exact jb (WI hq12)
def Zq.j9(Xf x1 x2 x8 WZ x18 x23 x28 x33 x38:Int):Option (List Int):=
  if((((((((([]:List Int) ++ [x2]) ++ [x8]) ++ [WZ]) ++ [x18]) ++ [x23]) ++ [x28]) ++ [x33]).length + [x38].length)*1≤140737488355328 then(some ((((((((([]:List Int) ++ [x2]) ++ [x8]) ++ [WZ]) ++ [x18]) ++ [x23]) ++ [x28]) ++ [x33]) ++ [x38]))else none
def Zq.j8(Xf x1 x2 x8 WZ x18 x23 x28 x33:Int):Option (List Int):=
  if(((((((([]:List Int) ++ [x2]) ++ [x8]) ++ [WZ]) ++ [x18]) ++ [x23]) ++ [x28]).length + [x33].length)*1≤140737488355328 then(if Xf<0 then(Zq.j9 Xf x1 x2 x8 WZ x18 x23 x28 x33 (IntKind.u8.wrap (255-(IntKind.u8.wrap (Int.tmod (IntKind.i64.wrap (Int.tdiv (IntKind.i64.wrap (Int.tdiv (IntKind.i64.wrap (Int.tdiv (IntKind.i64.wrap (Int.tdiv (IntKind.i64.wrap (Int.tdiv (IntKind.i64.wrap (Int.tdiv (IntKind.i64.wrap (Int.tdiv x1 256)) 256)) 256)) 256)) 256)) 256)) 256)) 256)))))else(Zq.j9 Xf x1 x2 x8 WZ x18 x23 x28 x33 (IntKind.u8.wrap (Int.tmod (IntKind.i64.wrap (Int.tdiv (IntKind.i64.wrap (Int.tdiv (IntKind.i64.wrap (Int.tdiv (IntKind.i64.wrap (Int.tdiv (IntKind.i64.wrap (Int.tdiv (IntKind.i64.wrap (Int.tdiv (IntKind.i64.wrap (Int.tdiv x1 256)) 256)) 256)) 256)) 256)) 256)) 256)) 256))))else none
def Zq.j7(Xf x1 x2 x8 WZ x18 x23 x28:Int):Option (List Int):=
  if((((((([]:List Int) ++ [x2]) ++ [x8]) ++ [WZ]) ++ [x18]) ++ [x23]).length + [x28].length)*1≤140737488355328 then(if Xf<0 then(Zq.j8 Xf x1 x2 x8 WZ x18 x23 x28 (IntKind.u8.wrap (255-(IntKind.u8.wrap (Int.tmod (IntKind.i64.wrap (Int.tdiv (IntKind.i64.wrap (Int.tdiv (IntKind.i64.wrap (Int.tdiv (IntKind.i64.wrap (Int.tdiv (IntKind.i64.wrap (Int.tdiv (IntKind.i64.wrap (Int.tdiv x1 256)) 256)) 256)) 256)) 256)) 256)) 256)))))else(Zq.j8 Xf x1 x2 x8 WZ x18 x23 x28 (IntKind.u8.wrap (Int.tmod (IntKind.i64.wrap (Int.tdiv (IntKind.i64.wrap (Int.tdiv (IntKind.i64.wrap (Int.tdiv (IntKind.i64.wrap (Int.tdiv (IntKind.i64.wrap (Int.tdiv (IntKind.i64.wrap (Int.tdiv x1 256)) 256)) 256)) 256)) 256)) 256)) 256))))else none
def Zq.j6(Xf x1 x2 x8 WZ x18 x23:Int):Option (List Int):=
  if(((((([]:List Int) ++ [x2]) ++ [x8]) ++ [WZ]) ++ [x18]).length + [x23].length)*1≤140737488355328 then(if Xf<0 then(Zq.j7 Xf x1 x2 x8 WZ x18 x23 (IntKind.u8.wrap (255-(IntKind.u8.wrap (Int.tmod (IntKind.i64.wrap (Int.tdiv (IntKind.i64.wrap (Int.tdiv (IntKind.i64.wrap (Int.tdiv (IntKind.i64.wrap (Int.tdiv (IntKind.i64.wrap (Int.tdiv x1 256)) 256)) 256)) 256)) 256)) 256)))))else(Zq.j7 Xf x1 x2 x8 WZ x18 x23 (IntKind.u8.wrap (Int.tmod (IntKind.i64.wrap (Int.tdiv (IntKind.i64.wrap (Int.tdiv (IntKind.i64.wrap (Int.tdiv (IntKind.i64.wrap (Int.tdiv (IntKind.i64.wrap (Int.tdiv x1 256)) 256)) 256)) 256)) 256)) 256))))else none
def Zq.j5(Xf x1 x2 x8 WZ x18:Int):Option (List Int):=
  if((((([]:List Int) ++ [x2]) ++ [x8]) ++ [WZ]).length + [x18].length)*1≤140737488355328 then(if Xf<0 then(Zq.j6 Xf x1 x2 x8 WZ x18 (IntKind.u8.wrap (255-(IntKind.u8.wrap (Int.tmod (IntKind.i64.wrap (Int.tdiv (IntKind.i64.wrap (Int.tdiv (IntKind.i64.wrap (Int.tdiv (IntKind.i64.wrap (Int.tdiv x1 256)) 256)) 256)) 256)) 256)))))else(Zq.j6 Xf x1 x2 x8 WZ x18 (IntKind.u8.wrap (Int.tmod (IntKind.i64.wrap (Int.tdiv (IntKind.i64.wrap (Int.tdiv (IntKind.i64.wrap (Int.tdiv (IntKind.i64.wrap (Int.tdiv x1 256)) 256)) 256)) 256)) 256))))else none
def Zq.j4(Xf x1 x2 x8 WZ:Int):Option (List Int):=
  if(((([]:List Int) ++ [x2]) ++ [x8]).length + [WZ].length)*1≤140737488355328 then(if Xf<0 then(Zq.j5 Xf x1 x2 x8 WZ (IntKind.u8.wrap (255-(IntKind.u8.wrap (Int.tmod (IntKind.i64.wrap (Int.tdiv (IntKind.i64.wrap (Int.tdiv (IntKind.i64.wrap (Int.tdiv x1 256)) 256)) 256)) 256)))))else(Zq.j5 Xf x1 x2 x8 WZ (IntKind.u8.wrap (Int.tmod (IntKind.i64.wrap (Int.tdiv (IntKind.i64.wrap (Int.tdiv (IntKind.i64.wrap (Int.tdiv x1 256)) 256)) 256)) 256))))else none
def Zq.j3(Xf x1 x2 x8:Int):Option (List Int):=
  if((([]:List Int) ++ [x2]).length + [x8].length)*1≤140737488355328 then(if Xf<0 then(Zq.j4 Xf x1 x2 x8 (IntKind.u8.wrap (255-(IntKind.u8.wrap (Int.tmod (IntKind.i64.wrap (Int.tdiv (IntKind.i64.wrap (Int.tdiv x1 256)) 256)) 256)))))else(Zq.j4 Xf x1 x2 x8 (IntKind.u8.wrap (Int.tmod (IntKind.i64.wrap (Int.tdiv (IntKind.i64.wrap (Int.tdiv x1 256)) 256)) 256))))else none
def Zq.j2(Xf x1 x2:Int):Option (List Int):=
  if(([]:List Int).length + [x2].length)*1≤140737488355328 then(if Xf<0 then(Zq.j3 Xf x1 x2 (IntKind.u8.wrap (255-(IntKind.u8.wrap (Int.tmod (IntKind.i64.wrap (Int.tdiv x1 256)) 256)))))else(Zq.j3 Xf x1 x2 (IntKind.u8.wrap (Int.tmod (IntKind.i64.wrap (Int.tdiv x1 256)) 256))))else none
def Zq.j1(Xf x1:Int):Option (List Int):=
  if Xf<0 then(Zq.j2 Xf x1 (IntKind.u8.wrap (255-(IntKind.u8.wrap (Int.tmod x1 256)))))else(Zq.j2 Xf x1 (IntKind.u8.wrap (Int.tmod x1 256)))
def Zq.f(Xf:Int):Option (List Int):=
  if Xf<0 then(Zq.j1 Xf (IntKind.i64.wrap (0-(IntKind.i64.wrap (Xf+1)))))else(Zq.j1 Xf Xf)
theorem Zq.ok{Xf}(r)(ho:Zq.f Xf=some r):Ok Tryz.prog 247 [i6 Xf] [] fun v=>HO.ex fun u0:Value=>HO.Yr (v=u0) (HO.Yk [Zg kb 5 u0 r]):=by
 refine oq (h:=fun _ _ _=>id) 30 Tryz.func247 fun w hV see pb=>?_;refine go ?_;refine oi r (fun z=>∃x1,z (Zq.j1 Xf x1) [(0,i6 x1),(3,.bool (decide (Xf<0)))] []) ?_ ?_;rotate_left
 ·refine gg ?_;refine ci ho (fun ho=>?_) fun ho=>?_
  ·refine SP.val (Val.neg rfl) rfl rfl rfl (gg ?_);exact mo ho (fun _ z=>⟨(wr (0-(wr (Xf+1)))),z⟩)
  exact mo ho (fun _ z=>⟨Xf,z⟩)
 rintro _ _ ⟨x1,ho,h⟩;refine en h ?_;refine CP.rounds 10 ?_;refine LP.step (gg ?_);refine CP.W9 rfl rfl ?_;refine go ?_;refine CP.seq ?_;refine go ?_;refine SP.val (Val.rem rfl rfl (by decide)) rfl rfl rfl ?_;refine SP.val (Val.conv (by rw[Tryz.underlying2];rfl) Tryz.underlying5 rfl) rfl rfl rfl ?_;refine go ?_;refine oi r (fun z=>∃x2,z (Zq.j2 Xf x1 x2) [(0,i6 x1),(3,.bool (decide (Xf<0))),(4,nl),(5,i6 0),(6,i8 x2)] []) ?_ ?_;rotate_left
 ·refine gg ?_;refine ci ho (fun ho=>?_) fun ho=>?_
  ·exact mo ho (fun _ z=>⟨(wb (255-(wb (Int.tmod x1 256)))),z⟩)
  exact mo ho (fun _ z=>⟨(wb (Int.tmod x1 256)),z⟩)
 rintro _ _ ⟨x2,ho,h⟩;refine en h ?_;refine li (h:=fun _=>id) kb [x2] fun v3=>?_;refine sn kb 5 ?_;refine fz 1 ?_;refine ap 0 0 ho fun v6 ho=>?_;refine QE.round ?_;refine LP.step (gg ?_);refine CP.W9 rfl rfl ?_;refine go ?_;refine CP.seq ?_;refine go ?_;refine SP.val (Val.rem rfl rfl (by decide)) rfl rfl rfl ?_;refine SP.val (Val.conv (by rw[Tryz.underlying2];rfl) Tryz.underlying5 rfl) rfl rfl rfl ?_;refine go ?_;refine oi r (fun z=>∃x8,z (Zq.j3 Xf x1 x2 x8) [(0,i6 (wr (Int.tdiv x1 256))),(3,.bool (decide (Xf<0))),(4,v6),(5,i6 1),(6,i8 x8)] [Zg kb 5 v6 (([]:List Int) ++ [x2])]) ?_ ?_;rotate_left
 ·refine gg ?_;refine ci ho (fun ho=>?_) fun ho=>?_
  ·exact mo ho (fun _ z=>⟨(wb (255-(wb (Int.tmod (wr (Int.tdiv x1 256)) 256)))),z⟩)
  exact mo ho (fun _ z=>⟨(wb (Int.tmod (wr (Int.tdiv x1 256)) 256)),z⟩)
 rintro _ _ ⟨x8,ho,h⟩;refine en h ?_;refine li (h:=fun _=>id) kb [x8] fun v9=>?_;refine fz 0 ?_;refine ap 0 0 ho fun v11 ho=>?_;refine QE.round ?_;refine LP.step (gg ?_);refine CP.W9 rfl rfl ?_;refine go ?_;refine CP.seq ?_;refine go ?_;refine SP.val (Val.rem rfl rfl (by decide)) rfl rfl rfl ?_;refine SP.val (Val.conv (by rw[Tryz.underlying2];rfl) Tryz.underlying5 rfl) rfl rfl rfl ?_;refine go ?_;refine oi r (fun z=>∃WZ,z (Zq.j4 Xf x1 x2 x8 WZ) [(0,i6 (wr (Int.tdiv (wr (Int.tdiv x1 256)) 256))),(3,.bool (decide (Xf<0))),(4,v11),(5,i6 2),(6,i8 WZ)] [Zg kb 5 v11 ((([]:List Int) ++ [x2]) ++ [x8])]) ?_ ?_;rotate_left
 ·refine gg ?_;refine ci ho (fun ho=>?_) fun ho=>?_
  ·exact mo ho (fun _ z=>⟨(wb (255-(wb (Int.tmod (wr (Int.tdiv (wr (Int.tdiv x1 256)) 256)) 256)))),z⟩)
  exact mo ho (fun _ z=>⟨(wb (Int.tmod (wr (Int.tdiv (wr (Int.tdiv x1 256)) 256)) 256)),z⟩)
 rintro _ _ ⟨WZ,ho,h⟩;refine en h ?_;refine li (h:=fun _=>id) kb [WZ] fun v14=>?_;refine fz 0 ?_;refine ap 0 0 ho fun v16 ho=>?_;refine QE.round ?_;refine LP.step (gg ?_);refine CP.W9 rfl rfl ?_;refine go ?_;refine CP.seq ?_;refine go ?_;refine SP.val (Val.rem rfl rfl (by decide)) rfl rfl rfl ?_;refine SP.val (Val.conv (by rw[Tryz.underlying2];rfl) Tryz.underlying5 rfl) rfl rfl rfl ?_;refine go ?_;refine oi r (fun z=>∃x18,z (Zq.j5 Xf x1 x2 x8 WZ x18) [(0,i6 (wr (Int.tdiv (wr (Int.tdiv (wr (Int.tdiv x1 256)) 256)) 256))),(3,.bool (decide (Xf<0))),(4,v16),(5,i6 3),(6,i8 x18)] [Zg kb 5 v16 (((([]:List Int) ++ [x2]) ++ [x8]) ++ [WZ])]) ?_ ?_;rotate_left
 ·refine gg ?_;refine ci ho (fun ho=>?_) fun ho=>?_
  ·exact mo ho (fun _ z=>⟨(wb (255-(wb (Int.tmod (wr (Int.tdiv (wr (Int.tdiv (wr (Int.tdiv x1 256)) 256)) 256)) 256)))),z⟩)
  exact mo ho (fun _ z=>⟨(wb (Int.tmod (wr (Int.tdiv (wr (Int.tdiv (wr (Int.tdiv x1 256)) 256)) 256)) 256)),z⟩)
 rintro _ _ ⟨x18,ho,h⟩;refine en h ?_;refine li (h:=fun _=>id) kb [x18] fun v19=>?_;refine fz 0 ?_;refine ap 0 0 ho fun v21 ho=>?_;refine QE.round ?_;refine LP.step (gg ?_);refine CP.W9 rfl rfl ?_;refine go ?_;refine CP.seq ?_;refine go ?_;refine SP.val (Val.rem rfl rfl (by decide)) rfl rfl rfl ?_;refine SP.val (Val.conv (by rw[Tryz.underlying2];rfl) Tryz.underlying5 rfl) rfl rfl rfl ?_;refine go ?_;refine oi r (fun z=>∃x23,z (Zq.j6 Xf x1 x2 x8 WZ x18 x23) [(0,i6 (wr (Int.tdiv (wr (Int.tdiv (wr (Int.tdiv (wr (Int.tdiv x1 256)) 256)) 256)) 256))),(3,.bool (decide (Xf<0))),(4,v21),(5,i6 4),(6,i8 x23)] [Zg kb 5 v21 ((((([]:List Int) ++ [x2]) ++ [x8]) ++ [WZ]) ++ [x18])]) ?_ ?_;rotate_left
 ·refine gg ?_;refine ci ho (fun ho=>?_) fun ho=>?_
  ·exact mo ho (fun _ z=>⟨(wb (255-(wb (Int.tmod (wr (Int.tdiv (wr (Int.tdiv (wr (Int.tdiv (wr (Int.tdiv x1 256)) 256)) 256)) 256)) 256)))),z⟩)
  exact mo ho (fun _ z=>⟨(wb (Int.tmod (wr (Int.tdiv (wr (Int.tdiv (wr (Int.tdiv (wr (Int.tdiv x1 256)) 256)) 256)) 256)) 256)),z⟩)
 rintro _ _ ⟨x23,ho,h⟩;refine en h ?_;refine li (h:=fun _=>id) kb [x23] fun v24=>?_;refine fz 0 ?_;refine ap 0 0 ho fun v26 ho=>?_;refine QE.round ?_;refine LP.step (gg ?_);refine CP.W9 rfl rfl ?_;refine go ?_;refine CP.seq ?_;refine go ?_;refine SP.val (Val.rem rfl rfl (by decide)) rfl rfl rfl ?_;refine SP.val (Val.conv (by rw[Tryz.underlying2];rfl) Tryz.underlying5 rfl) rfl rfl rfl ?_;refine go ?_;refine oi r (fun z=>∃x28,z (Zq.j7 Xf x1 x2 x8 WZ x18 x23 x28) [(0,i6 (wr (Int.tdiv (wr (Int.tdiv (wr (Int.tdiv (wr (Int.tdiv (wr (Int.tdiv x1 256)) 256)) 256)) 256)) 256))),(3,.bool (decide (Xf<0))),(4,v26),(5,i6 5),(6,i8 x28)] [Zg kb 5 v26 (((((([]:List Int) ++ [x2]) ++ [x8]) ++ [WZ]) ++ [x18]) ++ [x23])]) ?_ ?_;rotate_left
 ·refine gg ?_;refine ci ho (fun ho=>?_) fun ho=>?_
  ·exact mo ho (fun _ z=>⟨(wb (255-(wb (Int.tmod (wr (Int.tdiv (wr (Int.tdiv (wr (Int.tdiv (wr (Int.tdiv (wr (Int.tdiv x1 256)) 256)) 256)) 256)) 256)) 256)))),z⟩)
  exact mo ho (fun _ z=>⟨(wb (Int.tmod (wr (Int.tdiv (wr (Int.tdiv (wr (Int.tdiv (wr (Int.tdiv (wr (Int.tdiv x1 256)) 256)) 256)) 256)) 256)) 256)),z⟩)
 rintro _ _ ⟨x28,ho,h⟩;refine en h ?_;refine li (h:=fun _=>id) kb [x28] fun v29=>?_;refine fz 0 ?_;refine ap 0 0 ho fun v31 ho=>?_;refine QE.round ?_;refine LP.step (gg ?_);refine CP.W9 rfl rfl ?_;refine go ?_;refine CP.seq ?_;refine go ?_;refine SP.val (Val.rem rfl rfl (by decide)) rfl rfl rfl ?_;refine SP.val (Val.conv (by rw[Tryz.underlying2];rfl) Tryz.underlying5 rfl) rfl rfl rfl ?_;refine go ?_;refine oi r (fun z=>∃x33,z (Zq.j8 Xf x1 x2 x8 WZ x18 x23 x28 x33) [(0,i6 (wr (Int.tdiv (wr (Int.tdiv (wr (Int.tdiv (wr (Int.tdiv (wr (Int.tdiv (wr (Int.tdiv x1 256)) 256)) 256)) 256)) 256)) 256))),(3,.bool (decide (Xf<0))),(4,v31),(5,i6 6),(6,i8 x33)] [Zg kb 5 v31 ((((((([]:List Int) ++ [x2]) ++ [x8]) ++ [WZ]) ++ [x18]) ++ [x23]) ++ [x28])]) ?_ ?_;rotate_left
 ·refine gg ?_;refine ci ho (fun ho=>?_) fun ho=>?_
  ·exact mo ho (fun _ z=>⟨(wb (255-(wb (Int.tmod (wr (Int.tdiv (wr (Int.tdiv (wr (Int.tdiv (wr (Int.tdiv (wr (Int.tdiv (wr (Int.tdiv x1 256)) 256)) 256)) 256)) 256)) 256)) 256)))),z⟩)
  exact mo ho (fun _ z=>⟨(wb (Int.tmod (wr (Int.tdiv (wr (Int.tdiv (wr (Int.tdiv (wr (Int.tdiv (wr (Int.tdiv (wr (Int.tdiv x1 256)) 256)) 256)) 256)) 256)) 256)) 256)),z⟩)
 rintro _ _ ⟨x33,ho,h⟩;refine en h ?_;refine li (h:=fun _=>id) kb [x33] fun v34=>?_;refine fz 0 ?_;refine ap 0 0 ho fun v36 ho=>?_;refine QE.round ?_;refine LP.step (gg ?_);refine CP.W9 rfl rfl ?_;refine go ?_;refine CP.seq ?_;refine go ?_;refine SP.val (Val.rem rfl rfl (by decide)) rfl rfl rfl ?_;refine SP.val (Val.conv (by rw[Tryz.underlying2];rfl) Tryz.underlying5 rfl) rfl rfl rfl ?_;refine go ?_;refine oi r (fun z=>∃x38,z (Zq.j9 Xf x1 x2 x8 WZ x18 x23 x28 x33 x38) [(0,i6 (wr (Int.tdiv (wr (Int.tdiv (wr (Int.tdiv (wr (Int.tdiv (wr (Int.tdiv (wr (Int.tdiv (wr (Int.tdiv x1 256)) 256)) 256)) 256)) 256)) 256)) 256))),(3,.bool (decide (Xf<0))),(4,v36),(5,i6 7),(6,i8 x38)] [Zg kb 5 v36 (((((((([]:List Int) ++ [x2]) ++ [x8]) ++ [WZ]) ++ [x18]) ++ [x23]) ++ [x28]) ++ [x33])]) ?_ ?_
 ·rintro _ _ ⟨x38,ho,h⟩;refine en h ?_;refine li (h:=fun _=>id) kb [x38] fun v39=>?_;refine fz 0 ?_;refine ap 0 0 ho fun v41 ho=>?_;refine QE.round ?_;refine LP.step (gg ?_);refine CP.K4 rfl rfl (gg ?_);exact sI ho▸rt (sO [0])
 refine gg ?_;refine ci ho (fun ho=>?_) fun ho=>?_
 ·exact mo ho (fun _ z=>⟨(wb (255-(wb (Int.tmod (wr (Int.tdiv (wr (Int.tdiv (wr (Int.tdiv (wr (Int.tdiv (wr (Int.tdiv (wr (Int.tdiv (wr (Int.tdiv x1 256)) 256)) 256)) 256)) 256)) 256)) 256)) 256)))),z⟩)
 exact mo ho (fun _ z=>⟨(wb (Int.tmod (wr (Int.tdiv (wr (Int.tdiv (wr (Int.tdiv (wr (Int.tdiv (wr (Int.tdiv (wr (Int.tdiv (wr (Int.tdiv x1 256)) 256)) 256)) 256)) 256)) 256)) 256)) 256)),z⟩)
inductive X0.S where
  |start
  |l1 (WZ:Int) (l15:List Int) (x17:Int)
def X0.F(VH VQ:Int):X0.S→Option (X0.S⊕((List Int)×Int))
  | .start=>if((decide (VH<1))||(decide (VH>8)))=true then(some (.inr ([],2)))else(if VQ<0 then(some (.inr ([],11)))else(some (.inl (.l1 VQ [] 0))))
  | .l1 WZ l15 x17=>if x17<VH then(if(l15.length + [IntKind.u8.wrap (Int.tmod WZ 256)].length)*1≤140737488355328 then(some (.inl (.l1 (IntKind.i64.wrap (Int.tdiv WZ 256)) (l15 ++ [IntKind.u8.wrap (Int.tmod WZ 256)]) (IntKind.i64.wrap (x17+1)))))else none)else(if WZ>0 then(some (.inr ([],11)))else(some (.inr (l15,0))))
def X0.f(VH VQ:Int):Option ((List Int)×Int):=Zw (X0.F VH VQ) .start
theorem X0.ok{VH VQ}(r)(H:X0.f VH VQ=some r):Ok Tryz.prog 211 [i6 VH,i6 VQ] [] fun v=>HO.ex fun u0:Value=>HO.Yr (v=.tuple #[u0,i6 r.2]) (HO.Yk [Zg kb 5 u0 r.1]):=by
 refine oq 32 Tryz.func211 fun w hV see pb=>?_;obtain⟨m0,o,ho,hr⟩:=rn H;refine sj 3 [0,1] 13 ho ?_ ?_;rotate_left
 ·refine bb 10 (fun hq2=>?_) fun hq2=>?_
  ·exact jb (Vi hq2)
  exact jb (Vj hq2 rfl)
 refine gg ?_;refine cb ho (fun ho=>?_) fun ho=>?_
 ·exact fin ho hr▸rt (fun _ h=>sQ [0] (nO kb 5 h))
 refine ci ho (fun ho=>?_) fun ho=>?_
 ·exact fin ho hr▸rt (fun _ h=>sQ [0] (nO kb 5 h))
 refine lo ho hr (fun z=>∃WZ l15 x17 v16,z (.l1 WZ l15 x17) [(0,i6 VH),(1,i6 WZ),(6,v16),(7,i6 x17)] [Zg kb 5 v16 l15]) (fun _ z=>⟨VQ,[],0,nl,z⟩) ?_ (fun _ hw=>(nO kb 5 hw));rintro _ _ _ ⟨WZ,l15,x17,v16,m18,o,_,_,ho,hr,h⟩;refine en h ?_;refine ci ho (fun ho=>?_) fun ho=>?_
 ·refine li (h:=fun _=>id) kb [wb (Int.tmod WZ 256)] fun v19=>?_;refine fz 0 ?_;refine ap 0 0 ho fun v21 ho=>?_;exact lw ho hr (fun _ z=>⟨(wr (Int.tdiv WZ 256)),(l15 ++ [wb (Int.tmod WZ 256)]),(wr (x17+1)),v21,z⟩)
 refine ci ho (fun ho=>?_) fun ho=>?_
 ·exact fin ho hr▸rt (fun _ h=>sQ [0] (nO kb 5 h))
 exact fin ho hr▸rt (sO [0])
def UZ.f(Xx:Zp):Option ((List Int)×Int):=
  (Uk.f Xx).bind fun t3=>if(!t3)=true then(some ([],30))else(if Xx.Kind=1 then((Zq.f Xx.A).bind fun t7=>if([1].length+t7.length)*1≤140737488355328 then(some ([1]++t7,0))else none)else((X0.f 3 (IntKind.i64.wrap (Xx.A+1048576))).bind fun t12=>(X0.f 3 (IntKind.i64.wrap (Xx.B+1048576))).bind fun Kj=>if([2].length+t12.1.length)*1≤140737488355328 then(if(([2]++t12.1).length+Kj.1.length)*1≤140737488355328 then(some (([2]++t12.1)++Kj.1,0))else none)else none))
theorem UZ.ok{Xx}(r)(ho:UZ.f Xx=some r):Ok Tryz.prog 210 [.agg #[i8 Xx.Kind,i6 Xx.A,i6 Xx.B]] [] fun v=>HO.ex fun u0:Value=>HO.Yr (v=.tuple #[u0,i6 r.2]) (HO.Yk [Zg kb 5 u0 r.1]):=by
 refine oq 38 Tryz.func210 fun w hV see pb=>?_;refine bx fun b1=>?_;refine kv Uk.ok ho fun t3 ho=>?_;refine cb ho (fun ho=>?_) fun ho=>?_
 ·exact sI ho▸rt (fun _ h=>sQ [0] (nO kb 5 h))
 refine ci ho (fun ho=>?_) fun ho=>?_
 ·refine li kb [1] fun v5=>?_;refine k1 (h:=fun _ _=>id) Zq.ok ho fun t7 ho v8=>?_;refine fz 0 ?_;refine ap 0 0 ho fun v10 ho=>?_;exact sI ho▸rt (sO [0])
 refine k1 X0.ok ho fun t12 ho v13=>?_;refine k1 X0.ok ho fun Kj ho v16=>?_;refine li kb [2] fun v18=>?_;refine fz 2 ?_;refine ap 0 0 ho fun v20 ho=>?_;refine fz 1 ?_;refine ap 0 0 ho fun v22 ho=>?_;exact sI ho▸rt (sO [0])
inductive Xh.S where
  |start
  |l1 (l16:List Int) (x18:Int)
def Xh.F(ZC:List Zp):Xh.S→Option (Xh.S⊕((List Int)×Int))
  | .start=>(Wj.f ZC).bind fun t2=>if(!t2)=true then(some (.inr ([],60)))else(some (.inl (.l1 [IntKind.u8.wrap (ZC.length:Int)] 0)))
  | .l1 l16 x18=>if x18<(ZC.length:Int)then((elt ZC x18).bind fun Kq=>(UZ.f Kq).bind fun t23=>if(l16.length+t23.1.length)*1≤140737488355328 then(some (.inl (.l1 (l16++t23.1) (IntKind.i64.wrap (x18+1)))))else none)else(some (.inr (l16,0)))
def Xh.f(ZC:List Zp):Option ((List Int)×Int):=Zw (Xh.F ZC) .start
theorem Xh.ok{ZC Yt}(r)(H:Xh.f ZC=some r):Ok Tryz.prog 156 [Yt] [Z9 Z4 Yt ZC] fun v=>HO.ex fun u0:Value=>HO.Yr (v=.tuple #[u0,i6 r.2]) (HO.Yk [Zg kb 5 u0 r.1]):=by
 refine oq 33 Tryz.func156 fun w hV see pb=>?_;obtain⟨m0,o,ho,hr⟩:=rn H;refine kv Wj.ok ho fun t2 ho=>?_;refine cb ho (fun ho=>?_) fun ho=>?_
 ·exact fin ho hr▸rt (fun _ h=>sQ [0] (nO kb 5 h))
 refine li kb [wb (ZC.length:Int)] fun v4=>?_;refine lo ho hr (fun z=>∃l16 x18 v17,z (.l1 l16 x18) [(0,Yt),(4,v17),(5,i6 x18)] [Zg kb 5 v17 l16]) (fun _ z=>⟨[wb (ZC.length:Int)],0,v4,z⟩) ?_;rintro _ _ _ ⟨l16,x18,v17,m19,o,_,_,ho,hr,h⟩;refine en h ?_;refine ci ho (fun ho=>?_) fun ho=>?_
 ·refine ip 0 ho fun Kq ho p20=>?_;refine ld 0 ?_;refine k1 UZ.ok ho fun t23 ho v24=>?_;refine fz 0 ?_;refine ap 0 0 ho fun v26 ho=>?_;exact lw ho hr (fun _ z=>⟨(l16++t23.1),(wr (x18+1)),v26,z⟩)
 exact fin ho hr▸rt (sO [0])
def Ul.f(Z0:Zb):Option Bool:=
  (if((decide ((Z0.Args.length:Int)>4))||(decide ((Z0.Zk.length:Int)>(IntKind.i64.wrap (16-(Z0.Args.length:Int))))))=true then(some true)else((X7.f Z0.Args).bind fun t10=>some (!t10))).bind fun t11=>(if t11=true then(some true)else((X7.f Z0.Zk).bind fun t14=>some (!t14))).bind fun Kj=>if Kj=true then(some false)else(if((decide (Z0.Result≠1))&&(decide (Z0.Result≠2)))=true then(some false)else(some ((((((decide (Z0.Fuel≥0))&&(decide (Z0.Fuel≤1048576)))&&(decide (Z0.Stack≥0)))&&(decide (Z0.Stack≤256)))&&(decide (Z0.Heap≥0)))&&(decide (Z0.Heap≤1024)))))
theorem Ul.ok{Z0 Xu YP XH}(r)(ho:Ul.f Z0=some r):Ok Tryz.prog 99 [.agg #[Xu,YP,i8 Z0.Result,.bool Z0.Reads,i6 Z0.Fuel,i6 Z0.Stack,i6 Z0.Heap,XH]] [Z9 kb Xu Z0.Args,Z9 kb YP Z0.Zk,Z9 Z8 XH Z0.Code] fun v=>HO.pure (v=.bool r):=by
 refine oq 65 Tryz.func99 fun w hV see pb=>?_;refine bx fun b4=>?_;refine SP.jn 9 [1] 16 (.bool ((decide ((Z0.Args.length:Int)>4))||(decide ((Z0.Zk.length:Int)>(wr (16-(Z0.Args.length:Int))))))) ?_ ?_;rotate_left
 ·refine bb 7 (fun VP=>?_) fun VP=>?_
  ·exact jb (Vi VP)
  exact jb (Vj VP rfl)
 refine gg ?_;obtain⟨t11,Z6P,ho⟩:=bind_some ho;refine SP.jn 5 [1] 22 (.bool t11) ?_ ?_;rotate_left
 ·refine bc 17 Z6P (fun hq9 ho=>?_) fun hq9 ho=>?_
  ·obtain rfl:=sI ho;exact jn
  refine kv X7.ok ho fun t10 ho=>?_;obtain rfl:=sI ho;exact jn
 clear Z6P;refine gg ?_;obtain⟨Kj,Z3w,ho⟩:=bind_some ho;refine sj 5 [1] 28 ho ?_ ?_;rotate_left
 ·refine bc 23 Z3w (fun Z31 ho=>?_) fun Z31 ho=>?_
  ·obtain rfl:=sI ho;exact jn
  refine kv X7.ok ho fun t14 ho=>?_;obtain rfl:=sI ho;exact jn
 clear Z3w;refine gg ?_;refine cb ho (fun ho=>?_) fun ho=>?_
 ·exact sI ho▸rt
 refine sj 4 [1] 36 ho ?_ ?_;rotate_left
 ·refine bb 32 (fun Z24=>?_) fun Z24=>?_
  ·exact jb (WH Z24 rfl)
  exact jb (WI Z24)
 refine gg ?_;refine cb ho (fun ho=>?_) fun ho=>?_
 ·exact sI ho▸rt
 refine SP.jn 4 [1] 44 (.bool ((decide (Z0.Fuel≥0))&&(decide (Z0.Fuel≤1048576)))) ?_ ?_;rotate_left
 ·refine bb 40 (fun Z4B=>?_) fun Z4B=>?_
  ·exact jb (WH Z4B rfl)
  exact jb (WI Z4B)
 refine gg ?_;refine SP.jn 4 [1] 49 (.bool (((decide (Z0.Fuel≥0))&&(decide (Z0.Fuel≤1048576)))&&(decide (Z0.Stack≥0)))) ?_ ?_;rotate_left
 ·refine bb 45 (fun Z8o=>?_) fun Z8o=>?_
  ·exact jb (WH Z8o rfl)
  exact jb (WI Z8o)
 refine gg ?_;refine SP.jn 4 [1] 54 (.bool ((((decide (Z0.Fuel≥0))&&(decide (Z0.Fuel≤1048576)))&&(decide (Z0.Stack≥0)))&&(decide (Z0.Stack≤256)))) ?_ ?_;rotate_left
 ·refine bb 50 (fun Z8p=>?_) fun Z8p=>?_
  ·exact jb (WH Z8p rfl)
  exact jb (WI Z8p)
 refine gg ?_;refine SP.jn 4 [1] 59 (.bool (((((decide (Z0.Fuel≥0))&&(decide (Z0.Fuel≤1048576)))&&(decide (Z0.Stack≥0)))&&(decide (Z0.Stack≤256)))&&(decide (Z0.Heap≥0)))) ?_ ?_
 ·refine gg ?_;refine SP.jn 4 [] 64 (.bool ((((((decide (Z0.Fuel≥0))&&(decide (Z0.Fuel≤1048576)))&&(decide (Z0.Stack≥0)))&&(decide (Z0.Stack≤256)))&&(decide (Z0.Heap≥0)))&&(decide (Z0.Heap≤1024)))) ?_ ?_
  ·refine gg ?_;exact sI ho▸rt
  refine bb 60 (fun Z8g=>?_) fun Z8g=>?_
  ·exact jb (WH Z8g rfl)
  exact jb (WI Z8g)
 refine bb 55 (fun Z8q=>?_) fun Z8q=>?_
 ·exact jb (WH Z8q rfl)
 exact jb (WI Z8q)
def WE.j1(Z0:Zb)(l31:List Int):Option ((List Int)×Int):=
  (X0.f 3 Z0.Fuel).bind fun t33=>(X0.f 2 Z0.Stack).bind fun t36=>(X0.f 2 Z0.Heap).bind fun t39=>if(l31.length+t33.1.length)*1≤140737488355328 then(if((l31++t33.1).length+t36.1.length)*1≤140737488355328 then(if(((l31++t33.1)++t36.1).length+t39.1.length)*1≤140737488355328 then(some (((l31++t33.1)++t36.1)++t39.1,0))else none)else none)else none
def WE.f(Z0:Zb):Option ((List Int)×Int):=
  (Ul.f Z0).bind fun t6=>if(!t6)=true then(some ([],70))else(if([IntKind.u8.wrap (Z0.Args.length:Int)].length+Z0.Args.length)*1≤140737488355328 then(if(([IntKind.u8.wrap (Z0.Args.length:Int)]++Z0.Args).length + [IntKind.u8.wrap (Z0.Zk.length:Int)].length)*1≤140737488355328 then(if((([IntKind.u8.wrap (Z0.Args.length:Int)]++Z0.Args) ++ [IntKind.u8.wrap (Z0.Zk.length:Int)]).length+Z0.Zk.length)*1≤140737488355328 then(if(((([IntKind.u8.wrap (Z0.Args.length:Int)]++Z0.Args) ++ [IntKind.u8.wrap (Z0.Zk.length:Int)])++Z0.Zk).length + [Z0.Result].length)*1≤140737488355328 then(if Z0.Reads=true then(if((((([IntKind.u8.wrap (Z0.Args.length:Int)]++Z0.Args) ++ [IntKind.u8.wrap (Z0.Zk.length:Int)])++Z0.Zk) ++ [Z0.Result]).length + [1].length)*1≤140737488355328 then(WE.j1 Z0 ((((([IntKind.u8.wrap (Z0.Args.length:Int)]++Z0.Args) ++ [IntKind.u8.wrap (Z0.Zk.length:Int)])++Z0.Zk) ++ [Z0.Result]) ++ [1]))else none)else(if((((([IntKind.u8.wrap (Z0.Args.length:Int)]++Z0.Args) ++ [IntKind.u8.wrap (Z0.Zk.length:Int)])++Z0.Zk) ++ [Z0.Result]).length + [0].length)*1≤140737488355328 then(WE.j1 Z0 ((((([IntKind.u8.wrap (Z0.Args.length:Int)]++Z0.Args) ++ [IntKind.u8.wrap (Z0.Zk.length:Int)])++Z0.Zk) ++ [Z0.Result]) ++ [0]))else none))else none)else none)else none)else none)
theorem WE.ok{Z0 Xu YP XH}(r)(ho:WE.f Z0=some r):Ok Tryz.prog 157 [.agg #[Xu,YP,i8 Z0.Result,.bool Z0.Reads,i6 Z0.Fuel,i6 Z0.Stack,i6 Z0.Heap,XH]] [Z9 kb Xu Z0.Args,Z9 kb YP Z0.Zk,Z9 Z8 XH Z0.Code] fun v=>HO.ex fun u0:Value=>HO.Yr (v=.tuple #[u0,i6 r.2]) (HO.Yk [Zg kb 5 u0 r.1]):=by
 refine oq 74 Tryz.func157 fun w hV see pb=>?_;refine bx fun b4=>?_;refine kv Ul.ok ho fun t6 ho=>?_;refine cb ho (fun ho=>?_) fun ho=>?_
 ·exact sI ho▸rt (fun _ h=>sQ [0] (nO kb 5 h))
 refine li kb [wb (Z0.Args.length:Int)] fun v8=>?_;refine ap 0 0 ho fun v10 ho=>?_;refine li (h:=fun _=>id) kb [wb (Z0.Zk.length:Int)] fun v12=>?_;refine fz 0 ?_;refine ap 0 0 ho fun v14 ho=>?_;refine ap 0 2 ho fun v16 ho=>?_;refine li (h:=fun _=>id) kb [Z0.Result] fun v18=>?_;refine fz 0 ?_;refine ap (h:=fun _=>id) 0 0 ho fun v20 ho=>?_;refine go ?_;refine oi r (fun z=>∃l31 v32,z (WE.j1 Z0 l31) [(1,pt b4),(4,v32)] [Zg kb 5 v32 l31,Zl b4 [Xu,YP,i8 Z0.Result,.bool Z0.Reads,i6 Z0.Fuel,i6 Z0.Stack,i6 Z0.Heap,XH] 34]) ?_ ?_
 ·rintro _ _ ⟨l31,v32,ho,h⟩;refine en h ?_;refine k1 X0.ok ho fun t33 ho v34=>?_;refine k1 X0.ok ho fun t36 ho v37=>?_;refine k1 X0.ok ho fun t39 ho v40=>?_;refine fz 2 ?_;refine ap 2 0 ho fun v42 ho=>?_;refine fz 1 ?_;refine ap 1 0 ho fun v44 ho=>?_;refine fz 0 ?_;refine ap 0 0 ho fun v46 ho=>?_;exact sI ho▸rt (sO [0])
 refine gg ?_;refine cb ho (fun ho=>?_) fun ho=>?_
 ·refine li (h:=fun _=>id) kb [1] fun v22=>?_;refine fz 0 ?_;refine ap 0 0 ho fun v24 ho=>?_;exact mo ho (fun _ z=>⟨((((([wb (Z0.Args.length:Int)]++Z0.Args) ++ [wb (Z0.Zk.length:Int)])++Z0.Zk) ++ [Z0.Result]) ++ [1]),v24,z⟩)
 refine li (h:=fun _=>id) kb [0] fun v26=>?_;refine fz 0 ?_;refine ap 0 0 ho fun v28 ho=>?_;exact mo ho (fun _ z=>⟨((((([wb (Z0.Args.length:Int)]++Z0.Args) ++ [wb (Z0.Zk.length:Int)])++Z0.Zk) ++ [Z0.Result]) ++ [0]),v28,z⟩)
inductive Wl.S where
  |start
  |l1 (Zh:Int)
def Wl.F(ZC:List Z7):Wl.S→Option (Wl.S⊕Bool)
  | .start=>some (.inl (.l1 0))
  | .l1 Zh=>if((decide (Zh<(ZC.length:Int)))&&(decide (Zh≤200)))=true then((elt ZC Zh).bind fun x17=>(VF.f x17).bind fun Te=>if(!Te)=true then(some (.inr false))else(some (.inl (.l1 (IntKind.i64.wrap (Zh+1))))))else(some (.inr ((decide ((ZC.length:Int)≥1))&&(decide ((ZC.length:Int)≤200)))))
def Wl.f(ZC:List Z7):Option Bool:=Zw (Wl.F ZC) .start
theorem Wl.ok{ZC Yt}(r)(H:Wl.f ZC=some r):Ok Tryz.prog 212 [Yt] [Z9 Z8 Yt ZC] fun v=>HO.pure (v=.bool r):=by
 refine oq 28 Tryz.func212 fun w hV see pb=>?_;obtain⟨m0,o,ho,hr⟩:=rn H;refine lo ho hr (fun z=>∃Zh,z (.l1 Zh) [(0,Yt),(3,i6 Zh)] []) (fun _ z=>⟨0,z⟩) ?_;rintro _ _ _ ⟨Zh,m12,o,_,_,ho,hr,h⟩;refine en h ?_;refine sj 3 [0,3] 11 ho ?_ ?_;rotate_left
 ·refine bb 8 (fun ZcG=>?_) fun ZcG=>?_
  ·exact jb (WH ZcG rfl)
  exact jb (WI ZcG)
 refine gg ?_;refine cb ho (fun ho=>?_) fun ho=>?_
 ·refine ip 0 ho fun x17 ho p15=>?_;refine ld 0 ?_;refine kv VF.ok ho fun Te ho=>?_;refine cb ho (fun ho=>?_) fun ho=>?_
  ·exact fin ho hr▸rt
  exact lw ho hr (fun _ z=>⟨(wr (Zh+1)),z⟩)
 refine SP.jn 4 [] 27 (.bool ((decide ((ZC.length:Int)≥1))&&(decide ((ZC.length:Int)≤200)))) ?_ ?_
 ·refine gg ?_;exact fin ho hr▸rt
 refine bb 23 (fun Z8r=>?_) fun Z8r=>?_
 ·exact jb (WH Z8r rfl)
 exact jb (WI Z8r)
inductive Yz.S where
  |start
  |l1 (Ky:List Int) (T9:Int)
def Yz.j1(ZC:List Z7)(T9:Int)(l87:List Int):Option (Yz.S⊕((List Int)×Int)):=
  some (.inl (.l1 l87 (IntKind.i64.wrap (T9+1))))
def Yz.F(ZC:List Z7):Yz.S→Option (Yz.S⊕((List Int)×Int))
  | .start=>(Wl.f ZC).bind fun t2=>if(!t2)=true then(some (.inr ([],40)))else(some (.inl (.l1 [IntKind.u8.wrap (ZC.length:Int)] 0)))
  | .l1 Ky T9=>if T9<(ZC.length:Int)then((elt ZC T9).bind fun x53=>if(Ky.length + [x53.Op].length)*1≤140737488355328 then((elt ZC T9).bind fun x62=>(Uc.f x62.Op).bind fun t65=>if t65=true then((elt ZC T9).bind fun U9=>(elt ZC T9).bind fun x74=>if((Ky ++ [x53.Op]).length + [IntKind.u8.wrap (Int.tmod U9.A 256),IntKind.u8.wrap (IntKind.i64.wrap (Int.tdiv x74.A 256))].length)*1≤140737488355328 then(Yz.j1 ZC T9 ((Ky ++ [x53.Op]) ++ [IntKind.u8.wrap (Int.tmod U9.A 256),IntKind.u8.wrap (IntKind.i64.wrap (Int.tdiv x74.A 256))]))else none)else(Yz.j1 ZC T9 (Ky ++ [x53.Op])))else none)else(some (.inr (Ky,0)))
def Yz.f(ZC:List Z7):Option ((List Int)×Int):=Zw (Yz.F ZC) .start
theorem Yz.ok{ZC Yt}(r)(H:Yz.f ZC=some r):Ok Tryz.prog 158 [Yt] [Z9 Z8 Yt ZC] fun v=>HO.ex fun u0:Value=>HO.Yr (v=.tuple #[u0,i6 r.2]) (HO.Yk [Zg kb 5 u0 r.1]):=by
 refine oq 51 Tryz.func158 fun w hV see pb=>?_;obtain⟨m0,o,ho,hr⟩:=rn H;refine kv Wl.ok ho fun t2 ho=>?_;refine cb ho (fun ho=>?_) fun ho=>?_
 ·exact fin ho hr▸rt (fun _ h=>sQ [0] (nO kb 5 h))
 refine li kb [wb (ZC.length:Int)] fun v4=>?_;refine lo ho hr (fun z=>∃Ky T9 v48,z (.l1 Ky T9) [(0,Yt),(4,v48),(5,i6 T9)] [Zg kb 5 v48 Ky]) (fun _ z=>⟨[wb (ZC.length:Int)],0,v4,z⟩) ?_;rintro _ _ _ ⟨Ky,T9,v48,m50,o,_,_,ho,hr,h⟩;refine en h ?_;refine ci (ht:=id) ho (fun ho=>?_) fun ho=>?_;rotate_left
 ·exact fin ho hr▸rt (sO [0])
 refine go ?_;refine ji hr (fun z=>∃l87 v88,z (Yz.j1 ZC T9 l87) [(0,Yt),(4,v88),(5,i6 T9)] [Zg kb 5 v88 l87]) ?_ ?_
 ·rintro _ _ ⟨l87,v88,m89,o,_,ho,hr,h⟩;refine en h ?_;exact lw ho hr (fun _ z=>⟨l87,(wr (T9+1)),v88,z⟩)
 refine gg ?_;refine ip 0 ho fun x53 ho p51=>?_;refine SP.WG see 0 rfl Tryz.underlying43 rfl Tj.h Z8.KP rfl rfl rfl (fun p54=>gg ?_);refine li (h:=fun _=>id) kb [x53.Op] fun v56=>?_;refine fz 0 ?_;refine ap 0 0 ho fun v58 ho=>?_;refine ip 3 ho fun x62 ho p60=>?_;refine SP.WG see 0 rfl Tryz.underlying43 rfl Tj.h Z8.KP rfl rfl rfl (fun p63=>gg ?_);refine kv Uc.ok ho fun t65 ho=>?_;refine cb ho (fun ho=>?_) fun ho=>?_;rotate_left
 ·exact mi ho hr (fun _ z=>⟨(Ky ++ [x53.Op]),v58,z⟩)
 refine dr ?_;refine ge 5 ho fun U9 ho p66 Z94=>?_;refine DA.ghost (fun w2 h=>h.Jv see 0 rfl Z8.Je) (fun p69 Zff=>?_);refine gu 0 ?_;refine ge 8 ho fun x74 ho p72 Zsw=>?_;refine DA.ghost (fun w2 h=>h.Jv see 0 rfl Z8.Je) (fun p75 Zsx=>?_);refine gu 0 ?_;refine DA.ph 0 16 ?_;refine DT.tk 0 ?_;refine DT.tk 1 ?_;refine DT.tk 2 ?_;refine DT.tv 3 rfl (Val.ie rfl rfl Z94) ?_;refine DT.tv 4 rfl (Val.fe rfl Zff) ?_;refine tk 5 ?_;refine tk 6 ?_;refine tk 7 ?_;refine DT.tk 8 ?_;refine DT.tk 9 ?_;refine DT.tv 10 rfl (Val.ie rfl rfl Zsw) ?_;refine DT.tv 11 rfl (Val.fe rfl Zsx) ?_;refine tk 12 ?_;refine tk 13 ?_;refine tk 14 ?_;refine DT.one 15 rfl (by kernel_rfl) rfl ?_;refine li kb [wb (Int.tmod U9.A 256),wb (wr (Int.tdiv x74.A 256))] fun v82=>?_;refine QE.Vq (fun w2 hw=>(sQ [1] hw)) ?_;refine dn ?_;refine d1 (h:=id) 16 ?_;refine fz 0 ?_;refine ap 0 0 ho fun v84 ho=>?_;refine d1 17 ?_;refine dz ?_;exact mi ho hr (fun _ z=>⟨((Ky ++ [x53.Op]) ++ [wb (Int.tmod U9.A 256),wb (wr (Int.tdiv x74.A 256))]),v84,z⟩)
inductive Y1.S where
  |start
  |l1 (l70:List Int) (x72:Int)
def Y1.j1(Z0:Zc)(Zac:List Int):Option (Y1.S⊕((List Int)×Int)):=
  if(Zac.length:Int)>2000 then(some (.inr ([],3)))else(some (.inr (Zac,0)))
def Y1.F(Z0:Zc):Y1.S→Option (Y1.S⊕((List Int)×Int))
  | .start=>if((((decide ((Z0.ZA.length:Int)>4))||(decide ((Z0.Methods.length:Int)>16)))||(decide (Z0.Zo<(-1))))||(decide (Z0.Zo≥(Z0.Methods.length:Int))))=true then(some (.inr ([],80)))else((Xh.f Z0.ZA).bind fun Kh=>if Kh.2≠0 then(some (.inr ([],Kh.2)))else((Xh.f Z0.Pool).bind fun t17=>if t17.2≠0 then(some (.inr ([],t17.2)))else(if(Kh.1.length+t17.1.length)*1≤140737488355328 then(if((Kh.1++t17.1).length + [IntKind.u8.wrap (Z0.Methods.length:Int)].length)*1≤140737488355328 then(some (.inl (.l1 ((Kh.1++t17.1) ++ [IntKind.u8.wrap (Z0.Methods.length:Int)]) 0)))else none)else none)))
  | .l1 l70 x72=>if x72<(Z0.Methods.length:Int)then((elt Z0.Methods x72).bind fun x76=>(WE.f x76).bind fun t83=>if t83.2≠0 then(some (.inr ([],t83.2)))else((elt Z0.Methods x72).bind fun x89=>(Yz.f x89.Code).bind fun t94=>if t94.2≠0 then(some (.inr ([],t94.2)))else(if(l70.length+t83.1.length)*1≤140737488355328 then(if((l70++t83.1).length+t94.1.length)*1≤140737488355328 then(some (.inl (.l1 ((l70++t83.1)++t94.1) (IntKind.i64.wrap (x72+1)))))else none)else none)))else(if Z0.Zo<0 then(if(l70.length + [255].length)*1≤140737488355328 then(Y1.j1 Z0 (l70 ++ [255]))else none)else(if(l70.length + [IntKind.u8.wrap Z0.Zo].length)*1≤140737488355328 then(Y1.j1 Z0 (l70 ++ [IntKind.u8.wrap Z0.Zo]))else none))
def Y1.f(Z0:Zc):Option ((List Int)×Int):=Zw (Y1.F Z0) .start
theorem Y1.ok{Z0 Z6 Za Z5}(r)(H:Y1.f Z0=some r):Ok Tryz.prog 98 [.agg #[Z6,Za,Z5,i6 Z0.Zo]] [Z9 Z4 Z6 Z0.ZA,Z9 Z4 Za Z0.Pool,Z9 Zd Z5 Z0.Methods] fun v=>HO.ex fun u0:Value=>HO.Yr (v=.tuple #[u0,i6 r.2]) (HO.Yk [Zg kb 5 u0 r.1]):=by
 refine oq 117 Tryz.func98 fun w hV see pb=>?_;obtain⟨m0,o,ho,hr⟩:=rn H;refine bx fun b4=>?_;refine SP.jn 5 [1] 21 (.bool ((decide ((Z0.ZA.length:Int)>4))||(decide ((Z0.Methods.length:Int)>16)))) ?_ ?_;rotate_left
 ·refine bb 16 (fun VP=>?_) fun VP=>?_
  ·exact jb (Vi VP)
  exact jb (Vj VP rfl)
 refine gg ?_;refine SP.jn 4 [1] 26 (.bool (((decide ((Z0.ZA.length:Int)>4))||(decide ((Z0.Methods.length:Int)>16)))||(decide (Z0.Zo<(-1))))) ?_ ?_;rotate_left
 ·refine bb 22 (fun hq9=>?_) fun hq9=>?_
  ·exact jb (Vi hq9)
  exact jb (Vj hq9 rfl)
 refine gg ?_;refine sj 7 [1] 34 ho ?_ ?_;rotate_left
 ·refine bb 27 (fun hq11=>?_) fun hq11=>?_
  ·exact jb (Vi hq11)
  exact jb (Vj hq11 rfl)
 refine gg ?_;refine cb ho (fun ho=>?_) fun ho=>?_
 ·exact fin ho hr▸rt (fun _ h=>sQ [0] (nO kb 5 h))
 refine k1 Xh.ok ho fun Kh ho v14=>?_;refine ci ho (fun ho=>?_) fun ho=>?_
 ·exact fin ho hr▸rt (fun _ h=>sQ [0] (nO kb 5 h))
 refine k1 Xh.ok ho fun t17 ho v18=>?_;refine ci ho (fun ho=>?_) fun ho=>?_
 ·exact fin ho hr▸rt (fun _ h=>sQ [0] (nO kb 5 h))
 refine fz 0 ?_;refine ap 0 0 ho fun v21 ho=>?_;refine li (h:=fun _=>id) kb [wb (Z0.Methods.length:Int)] fun v23=>?_;refine fz 0 ?_;refine ap 0 0 ho fun v25 ho=>?_;refine lo ho hr (fun z=>∃l70 x72 v71,z (.l1 l70 x72) [(1,pt b4),(4,v71),(7,i6 x72)] [Zg kb 5 v71 l70,Zl b4 [Z6,Za,Z5,i6 Z0.Zo] 25]) (fun _ z=>⟨((Kh.1++t17.1) ++ [wb (Z0.Methods.length:Int)]),0,v25,z⟩) ?_;rintro _ _ _ ⟨l70,x72,v71,m73,o,_,_,ho,hr,h⟩;refine en h ?_;refine ci (hf:=id) ho (fun ho=>?_) fun ho=>?_
 ·refine ip 2 ho fun x76 ho p74=>?_;refine Zd.load see 0 rfl Tryz.underlying34 rfl Z3D.h rfl rfl rfl (fun v77 v79 v81=>?_);refine k1 WE.ok ho fun t83 ho v84=>?_;refine ci ho (fun ho=>?_) fun ho=>?_
  ·exact fin ho hr▸rt (fun _ h=>sQ [0] (nO kb 5 h))
  refine ip 6 ho fun x89 ho p87=>?_;refine SP.WG see 0 rfl Tryz.underlying34 rfl Zcc.h Zd.Z27 rfl rfl rfl (fun p90=>?_);refine SP.Z2k see 0 rfl Tryz.underlying32 rfl rfl rfl (fun v92=>?_);refine k1 Yz.ok ho fun t94 ho v95=>?_;refine ci ho (fun ho=>?_) fun ho=>?_
  ·exact fin ho hr▸rt (fun _ h=>sQ [0] (nO kb 5 h))
  refine fz 1 ?_;refine ap 1 0 ho fun v98 ho=>?_;refine fz 0 ?_;refine ap 0 0 ho fun Zng ho=>?_;exact lw ho hr (fun _ z=>⟨((l70++t83.1)++t94.1),(wr (x72+1)),Zng,z⟩)
 refine go ?_;refine ji hr (fun z=>∃Zac Zfw,z (Y1.j1 Z0 Zac) [(4,Zfw)] [Zg kb 5 Zfw Zac]) ?_ ?_ (hb:=pe [])
 ·rintro _ _ ⟨Zac,Zfw,Zwa,o,_,ho,hr,h⟩;refine en h ?_;refine ci ho (fun ho=>?_) fun ho=>?_
  ·exact fin ho hr▸rt (fun _ h=>sQ [0] (nO kb 5 h))
  exact fin ho hr▸rt (sO [0])
 refine gg ?_;refine ci ho (fun ho=>?_) fun ho=>?_
 ·refine li (h:=fun _=>id) kb [255] fun Z2D=>?_;refine fz 0 ?_;refine ap 0 0 ho fun Zcs ho=>?_;exact mi ho hr (fun _ z=>⟨(l70 ++ [255]),Zcs,z⟩) (sO [0])
 refine li (h:=fun _=>id) kb [wb Z0.Zo] fun Zn9=>?_;refine fz 0 ?_;refine ap 0 0 ho fun Zfh ho=>?_;exact mi ho hr (fun _ z=>⟨(l70 ++ [wb Z0.Zo]),Zfh,z⟩) (sO [0])
def TU.f(Z0:Zc):Option Int:=
  (Y1.f Z0).bind fun t6=>some t6.2
theorem TU.ok{Z0 Z6 Za Z5}(r)(ho:TU.f Z0=some r):Ok Tryz.prog 50 [.agg #[Z6,Za,Z5,i6 Z0.Zo]] [Z9 Z4 Z6 Z0.ZA,Z9 Z4 Za Z0.Pool,Z9 Zd Z5 Z0.Methods] fun v=>HO.pure (v=i6 r):=by
 refine oq 11 Tryz.func50 fun w hV see pb=>?_;refine bx fun b4=>?_;refine k1 Y1.ok ho fun t6 ho v7=>?_;exact sI ho▸rt
inductive X9.S where
  |start
  |l1 (Zh:Int)
def X9.F(Z0:Zb):X9.S→Option (X9.S⊕Bool)
  | .start=>some (.inl (.l1 0))
  | .l1 Zh=>if Zh<(Z0.Args.length:Int)then((elt Z0.Args Zh).bind fun Uh=>if Uh=3 then(some (.inr false))else(some (.inl (.l1 (IntKind.i64.wrap (Zh+1))))))else((Ul.f Z0).bind fun t16=>some (.inr t16))
def X9.f(Z0:Zb):Option Bool:=Zw (X9.F Z0) .start
theorem X9.ok{Z0 Xu YP XH}(r)(H:X9.f Z0=some r):Ok Tryz.prog 51 [.agg #[Xu,YP,i8 Z0.Result,.bool Z0.Reads,i6 Z0.Fuel,i6 Z0.Stack,i6 Z0.Heap,XH]] [Z9 kb Xu Z0.Args,Z9 kb YP Z0.Zk,Z9 Z8 XH Z0.Code] fun v=>HO.pure (v=.bool r):=by
 refine oq 19 Tryz.func51 fun w hV see pb=>?_;obtain⟨m0,o,ho,hr⟩:=rn H;refine bx fun b4=>?_;refine lo ho hr (fun z=>∃Zh,z (.l1 Zh) [(1,pt b4),(3,i6 Zh)] [Zl b4 [Xu,YP,i8 Z0.Result,.bool Z0.Reads,i6 Z0.Fuel,i6 Z0.Stack,i6 Z0.Heap,XH] 34]) (fun _ z=>⟨0,z⟩) ?_;rintro _ _ _ ⟨Zh,m12,o,_,_,ho,hr,h⟩;refine en h ?_;refine ci ho (fun ho=>?_) fun ho=>?_
 ·refine ip 0 ho fun Uh ho p13=>?_;refine ci ho (fun ho=>?_) fun ho=>?_
  ·exact fin ho hr▸rt
  exact lw ho hr (fun _ z=>⟨(wr (Zh+1)),z⟩)
 refine kv Ul.ok ho fun t16 ho=>?_;exact fin ho hr▸rt
inductive ZJ.S where
  |start
  |l1 (Z1K:List ZE) (x153:Int)
  |l2 (x153:Int) (Z2H:List ZE) (Z36 Ka:Int)
  |l3 (Z1K:List ZE) (Z4D:Int)
def ZJ.j1(ZC:List Z7)(x153:Int)(Zad:List ZE):Option (ZJ.S⊕((List ZE)×Bool)):=
  some (.inl (.l1 Zad (IntKind.i64.wrap (x153+1))))
def ZJ.j2(ZC:List Z7)(x153 Ka:Int)(Zae:List ZE)(Zaf:Int):Option (ZJ.S⊕((List ZE)×Bool)):=
  some (.inl (.l2 x153 Zae Zaf (IntKind.i64.wrap (Ka+1))))
def ZJ.F(ZC:List Z7):ZJ.S→Option (ZJ.S⊕((List ZE)×Bool))
  | .start=>some (.inl (.l1 [] 0))
  | .l1 Z1K x153=>if x153<(ZC.length:Int)then((elt ZC x153).bind fun x157=>if x157.Op≠28 then(ZJ.j1 ZC x153 Z1K)else(some (.inl (.l2 x153 Z1K 0 0))))else(some (.inl (.l3 Z1K 0)))
  | .l2 x153 Z2H Z36 Ka=>if Ka<(ZC.length:Int)then((elt ZC Ka).bind fun Znh=>(if Znh.Op=29 then((elt ZC Ka).bind fun Zni=>some (decide (Zni.A=x153)))else(some false)).bind fun Znj=>if Znj=true then((elt ZC x153).bind fun Zag=>if(Z2H.length + [(⟨x153,Ka,Zag.A⟩:ZE)].length)*24≤140737488355328 then(ZJ.j2 ZC x153 Ka (Z2H ++ [(⟨x153,Ka,Zag.A⟩:ZE)]) (IntKind.i64.wrap (Z36+1)))else none)else(ZJ.j2 ZC x153 Ka Z2H Z36))else((if Z36≠1 then(some true)else((elt Z2H (IntKind.i64.wrap ((Z2H.length:Int)-1))).bind fun Znk=>some (decide (Znk.To<x153)))).bind fun t227=>if t227=true then(some (.inr ([],false)))else(ZJ.j1 ZC x153 Z2H))
  | .l3 Z1K Z4D=>if Z4D<(ZC.length:Int)then((elt ZC Z4D).bind fun Znl=>(if Znl.Op=29 then((elt ZC Z4D).bind fun ZcV=>(if ZcV.A≥(ZC.length:Int)then(some true)else((elt ZC Z4D).bind fun Znm=>(elt ZC Znm.A).bind fun Znn=>some (decide (Znn.Op≠28)))).bind fun ZiQ=>some ZiQ)else(some false)).bind fun Zno=>if Zno=true then(some (.inr ([],false)))else(some (.inl (.l3 Z1K (IntKind.i64.wrap (Z4D+1))))))else(some (.inr (Z1K,true)))
def ZJ.f(ZC:List Z7):Option ((List ZE)×Bool):=Zw (ZJ.F ZC) .start
theorem ZJ.ok{ZC Yt}(r)(H:ZJ.f ZC=some r):Ok Tryz.prog 161 [Yt] [Z9 Z8 Yt ZC] fun v=>HO.ex fun u0:Value=>HO.Yr (v=.tuple #[u0,.bool r.2]) (HO.Yk [Zg Y3 218 u0 r.1]):=by
 refine oq 103 Tryz.func161 fun w hV see pb=>?_;obtain⟨m0,o,ho,hr⟩:=rn H;refine lo ho hr (fun z=>∃Z1K x153 v152,z (.l1 Z1K x153) [(0,Yt),(4,v152),(5,i6 x153)] [Zg Y3 218 v152 Z1K]) (fun _ z=>⟨[],0,nl,z⟩) ?_ (fun _ hw=>(nO Y3 218 hw));rintro _ _ _ ⟨Z1K,x153,v152,Zwb,o,_,_,ho,hr,h⟩;refine en h ?_;refine ci (ht:=id) ho (fun ho=>?_) fun ho=>?_;rotate_left
 ·refine lo ho hr (fun z=>∃Z4D,z (.l3 Z1K Z4D) [(0,Yt),(4,v152),(8,i6 Z4D)] [Zg Y3 218 v152 Z1K]) (fun _ z=>⟨0,z⟩) ?_;rintro _ _ _ ⟨Z4D,ZC3,o,_,_,ho,hr,h⟩;refine en h ?_;refine ci ho (fun ho=>?_) fun ho=>?_;rotate_left
  ·exact fin ho hr▸rt (sO [0])
  refine ip 0 ho fun Znl ho ZC4=>?_;refine SP.WG see 0 rfl Tryz.underlying43 rfl Tj.h Z8.KP rfl rfl rfl (fun ZC5=>gg ?_);obtain⟨Zno,Zeh,ho⟩:=bind_some ho;refine sj 21 [0,4,8] 101 ho ?_ ?_
  ·clear Zeh;refine gg ?_;refine cb ho (fun ho=>?_) fun ho=>?_
   ·exact fin ho hr▸rt (fun _ h=>sQ [0] (nO Y3 218 h))
   exact lw ho hr (fun _ z=>⟨(wr (Z4D+1)),z⟩)
  refine bi 80 Zeh (fun Zsy ho=>?_) fun Zsy ho=>?_;rotate_left
  ·obtain rfl:=sI ho;exact jn
  refine ip 2 ho fun ZcV ho ZC6=>?_;refine SP.WG see 0 rfl Tryz.underlying43 rfl V4.h Z8.Je rfl rfl rfl (fun ZC7=>gg ?_);obtain⟨ZiQ,Zei,ho⟩:=bind_some ho;refine SP.jn 11 [0,4,8,80,81,82,83,84,85,86,87,88,89] 100 (.bool ZiQ) ?_ ?_
  ·clear Zei;refine gg ?_;obtain rfl:=sI ho;exact QE.jn fun w2 hw=>(St.V5 [2,3,4] rfl hw)
  refine bi 89 Zei (fun Zfx ho=>?_) fun Zfx ho=>?_
  ·obtain rfl:=sI ho;exact QE.jn (s:=⟨rfl,rfl,rfl,rfl,rfl,rfl,rfl,rfl,rfl,rfl,rfl,rfl,rfl,congrArg (fun z=>some (Value.bool z)) Zfx.symm,trivial⟩) fun w2 hw=>hw
  refine ip 4 ho fun Znm ho ZC8=>?_;refine SP.WG see 0 rfl Tryz.underlying43 rfl V4.h Z8.Je rfl rfl rfl (fun ZC9=>gg ?_);refine ip 6 ho fun Znn ho ZCa=>?_;refine SP.WG see 0 rfl Tryz.underlying43 rfl Tj.h Z8.KP rfl rfl rfl (fun ZCb=>gg ?_);obtain rfl:=sI ho;exact QE.jn (s:=⟨rfl,rfl,rfl,rfl,rfl,rfl,rfl,rfl,rfl,rfl,rfl,rfl,rfl,congrArg (fun z=>some (Value.bool z)) Zfx.symm,trivial⟩) fun w2 hw=>(St.V5 [4,5,6,7,8] rfl hw)
 refine go ?_;refine ji hr (fun z=>∃Zad v236,z (ZJ.j1 ZC x153 Zad) [(0,Yt),(4,v236),(5,i6 x153)] [Zg Y3 218 v236 Zad]) ?_ ?_
 ·rintro _ _ ⟨Zad,v236,ZCc,o,_,ho,hr,h⟩;refine en h ?_;exact lw ho hr (fun _ z=>⟨Zad,(wr (x153+1)),v236,z⟩)
 refine gg ?_;refine ip 0 ho fun x157 ho Zwc=>?_;refine SP.WG see 0 rfl Tryz.underlying43 rfl Tj.h Z8.KP rfl rfl rfl (fun ZCd=>gg ?_);refine ci ho (fun ho=>?_) fun ho=>?_
 ·exact mi ho hr (fun _ z=>⟨Z1K,v152,z⟩)
 refine lo ho hr (fun z=>∃Z2H Z36 Ka ZcW,z (.l2 x153 Z2H Z36 Ka) [(0,Yt),(4,ZcW),(5,i6 x153),(6,i6 Z36),(7,i6 Ka)] [Zg Y3 218 ZcW Z2H]) (fun _ z=>⟨Z1K,0,0,v152,z⟩) ?_;rintro _ _ _ ⟨Z2H,Z36,Ka,ZcW,ZCe,o,_,_,ho,hr,h⟩;refine en h ?_;refine ci (ht:=id) ho (fun ho=>?_) fun ho=>?_;rotate_left
 ·obtain⟨t227,Zej,ho⟩:=bind_some ho;refine sj 10 [0,4,5] 67 ho ?_ ?_
  ·clear Zej;refine gg ?_;refine cb ho (fun ho=>?_) fun ho=>?_
   ·exact fin ho hr▸rt (fun _ h=>sQ [0] (nO Y3 218 h))
   exact mi ho hr (fun _ z=>⟨Z2H,ZcW,z⟩)
  refine bi 57 Zej (fun Zsz ho=>?_) fun Zsz ho=>?_
  ·obtain rfl:=sI ho;exact jn
  obtain⟨Znk,Zah,ho⟩:=Yu ho;refine SP.Wo (fun w2 hw=>Zg.whole (St.own 0 rfl see.sub see.dj hw)) Tryz.underlying151 Zpb.h Zah.1 Zah.2 rfl rfl rfl rfl (fun Zwd Znp=>?_);refine SP.Z2l Znp Tryz.underlying218 rfl V4.h rfl rfl rfl (fun ZCf Znq=>?_);refine SP.val (Val.Vu (off:=1) (k:=Y3) (fun w2 hw=>Zg.whole (St.own 0 rfl see.sub see.dj hw)) Zah.2 Znq (fun _ _ e=>by subst e;rfl) Tryz.underlying3 rfl rfl) rfl rfl rfl (gg ?_);obtain rfl:=sI ho;exact jn
 refine go ?_;refine ji hr (fun z=>∃Zae Zaf Zai,z (ZJ.j2 ZC x153 Ka Zae Zaf) [(0,Yt),(4,Zai),(5,i6 x153),(6,i6 Zaf),(7,i6 Ka)] [Zg Y3 218 Zai Zae]) ?_ ?_
 ·rintro _ _ ⟨Zae,Zaf,Zai,ZCg,o,_,ho,hr,h⟩;refine en h ?_;exact lw ho hr (fun _ z=>⟨Zae,Zaf,(wr (Ka+1)),Zai,z⟩)
 refine gg ?_;refine ip 0 ho fun Znh ho ZCh=>?_;refine SP.WG see 0 rfl Tryz.underlying43 rfl Tj.h Z8.KP rfl rfl rfl (fun ZCi=>gg ?_);obtain⟨Znj,Zek,ho⟩:=bind_some ho;refine sj 8 [0,4,5,6,7] 41 ho ?_ ?_
 ·clear Zek;refine gg ?_;refine cb ho (fun ho=>?_) fun ho=>?_
  ·refine ip 2 ho fun Zag ho ZvY=>?_;refine SP.WG see 0 rfl Tryz.underlying43 rfl V4.h Z8.Je rfl rfl rfl (fun ZCj=>gg ?_);refine bd [i6 x153,i6 Ka,i6 Zag.A] ?_;refine li (h:=fun _=>id) Y3 [(⟨x153,Ka,Zag.A⟩:ZE)] fun ZCk=>?_;refine fz 0 ?_;refine ap 0 0 ho fun Zwe ho=>?_;exact mi ho hr (fun _ z=>⟨(Z2H ++ [(⟨x153,Ka,Zag.A⟩:ZE)]),(wr (Z36+1)),Zwe,z⟩)
  exact mi ho hr (fun _ z=>⟨Z2H,Z36,ZcW,z⟩)
 refine bi 33 Zek (fun ZsA ho=>?_) fun ZsA ho=>?_
 ·refine ip 2 ho fun Zni ho Zwf=>?_;refine SP.WG see 0 rfl Tryz.underlying43 rfl V4.h Z8.Je rfl rfl rfl (fun ZCl=>gg ?_);obtain rfl:=sI ho;exact QE.jn fun w2 hw=>(St.V5 [2,3,4] rfl hw)
 obtain rfl:=sI ho;exact jn
def XF.f(x_0:ZE)(a1:Int):Option Bool:=
  some ((decide (x_0.From<a1))&&(decide (a1≤x_0.To)))
theorem XF.ok{x_0 a1}(r)(ho:XF.f x_0 a1=some r):Ok Tryz.prog 163 [.agg #[i6 x_0.From,i6 x_0.To,i6 x_0.Turns],i6 a1] [] fun v=>HO.pure (v=.bool r):=by
 refine oq 15 Tryz.func163 fun w hV see pb=>?_;refine bx fun b1=>?_;refine SP.jn 5 [] 14 (.bool ((decide (x_0.From<a1))&&(decide (a1≤x_0.To)))) ?_ ?_
 ·refine gg ?_;exact sI ho▸rt
 refine bb 9 (fun hq4=>?_) fun hq4=>?_
 ·exact jb (WH hq4 rfl)
 exact jb (WI hq4)
def TM.f(x_0 y_1:ZE):Option Bool:=
  some ((decide (x_0.From<y_1.To))&&(decide (y_1.From<x_0.To)))
theorem TM.ok{x_0 y_1}(r)(ho:TM.f x_0 y_1=some r):Ok Tryz.prog 214 [.agg #[i6 x_0.From,i6 x_0.To,i6 x_0.Turns],.agg #[i6 y_1.From,i6 y_1.To,i6 y_1.Turns]] [] fun v=>HO.pure (v=.bool r):=by
 refine oq 17 Tryz.func214 fun w hV see pb=>?_;refine bx fun b1=>?_;refine bx fun b3=>?_;refine SP.jn 6 [] 16 (.bool ((decide (x_0.From<y_1.To))&&(decide (y_1.From<x_0.To)))) ?_ ?_
 ·refine gg ?_;exact sI ho▸rt
 refine bb 10 (fun hq6=>?_) fun hq6=>?_
 ·exact jb (WH hq6 rfl)
 exact jb (WI hq6)
def VL.f(x_0 y_1:ZE):Option Bool:=
  (XF.f y_1 x_0.From).bind fun t5=>(if t5=true then((XF.f y_1 x_0.To).bind fun t8=>some t8)else(some false)).bind fun t9=>some t9
theorem VL.ok{x_0 y_1}(r)(ho:VL.f x_0 y_1=some r):Ok Tryz.prog 215 [.agg #[i6 x_0.From,i6 x_0.To,i6 x_0.Turns],.agg #[i6 y_1.From,i6 y_1.To,i6 y_1.Turns]] [] fun v=>HO.pure (v=.bool r):=by
 refine oq 15 Tryz.func215 fun w hV see pb=>?_;refine bx fun b1=>?_;refine bx fun b3=>?_;refine kv XF.ok ho fun t5 ho=>?_;obtain⟨t9,Zkd,ho⟩:=bind_some ho;refine SP.jn 5 [] 14 (.bool t9) ?_ ?_
 ·clear Zkd;refine gg ?_;exact sI ho▸rt
 refine bc 9 Zkd (fun VP ho=>?_) fun VP ho=>?_
 ·refine kv XF.ok ho fun t8 ho=>?_;obtain rfl:=sI ho;exact jn
 obtain rfl:=sI ho;exact jn
inductive Zt.S where
  |start
  |l1 (x43:Int)
  |l2 (x43 K3:Int)
  |l3 (JI:Int)
  |l4 (JI Z1J Z1a:Int)
def Zt.j1(Tv:List ZE)(UJ x43 K3:Int)(ZcX:Bool):Option (Zt.S⊕Bool):=
  if ZcX=true then(some (.inr false))else(some (.inl (.l2 x43 (IntKind.i64.wrap (K3+1)))))
def Zt.j2(Tv:List ZE)(UJ JI Z1a x150:Int):Option (Zt.S⊕Bool):=
  some (.inl (.l4 JI x150 (IntKind.i64.wrap (Z1a+1))))
def Zt.F(Tv:List ZE)(UJ:Int):Zt.S→Option (Zt.S⊕Bool)
  | .start=>some (.inl (.l1 0))
  | .l1 x43=>if x43<(Tv.length:Int)then(some (.inl (.l2 x43 0)))else(some (.inl (.l3 0)))
  | .l2 x43 K3=>if K3<x43 then((elt Tv x43).bind fun x83=>(elt Tv K3).bind fun x87=>(TM.f x83 x87).bind fun t89=>if t89=true then((elt Tv x43).bind fun x93=>(elt Tv K3).bind fun x97=>(VL.f x93 x97).bind fun t99=>if(!t99)=true then((elt Tv K3).bind fun x103=>(elt Tv x43).bind fun x107=>(VL.f x103 x107).bind fun t109=>Zt.j1 Tv UJ x43 K3 (!t109))else(Zt.j1 Tv UJ x43 K3 false))else(Zt.j1 Tv UJ x43 K3 false))else(some (.inl (.l1 (IntKind.i64.wrap (x43+1)))))
  | .l3 JI=>if JI<UJ then(some (.inl (.l4 JI 0 0)))else(some (.inr true))
  | .l4 JI Z1J Z1a=>if Z1a<(Tv.length:Int)then((elt Tv Z1a).bind fun Znr=>(XF.f Znr JI).bind fun TL=>if TL=true then(Zt.j2 Tv UJ JI Z1a (IntKind.i64.wrap (Z1J+1)))else(Zt.j2 Tv UJ JI Z1a Z1J))else(if Z1J>4 then(some (.inr false))else(some (.inl (.l3 (IntKind.i64.wrap (JI+1))))))
def Zt.f(Tv:List ZE)(UJ:Int):Option Bool:=Zw (Zt.F Tv UJ) .start
theorem Zt.ok{Tv UJ Z2c}(r)(H:Zt.f Tv UJ=some r):Ok Tryz.prog 162 [Z2c,i6 UJ] [Z9 Y3 Z2c Tv] fun v=>HO.pure (v=.bool r):=by
 refine oq 75 Tryz.func162 fun w hV see pb=>?_;obtain⟨m0,o,ho,hr⟩:=rn H;refine lo ho hr (fun z=>∃x43,z (.l1 x43) [(0,Z2c),(1,i6 UJ),(5,i6 x43)] []) (fun _ z=>⟨0,z⟩) ?_;rintro _ _ _ ⟨x43,m44,o,_,_,ho,hr,h⟩;refine en h ?_;refine ci ho (fun ho=>?_) fun ho=>?_;rotate_left
 ·refine lo ho hr (fun z=>∃JI,z (.l3 JI) [(0,Z2c),(1,i6 UJ),(7,i6 JI)] []) (fun _ z=>⟨0,z⟩) ?_;rintro _ _ _ ⟨JI,ZCm,o,_,_,ho,hr,h⟩;refine en h ?_;refine ci ho (fun ho=>?_) fun ho=>?_;rotate_left
  ·exact fin ho hr▸rt
  refine lo ho hr (fun z=>∃Z1J Z1a,z (.l4 JI Z1J Z1a) [(0,Z2c),(1,i6 UJ),(7,i6 JI),(8,i6 Z1J),(9,i6 Z1a)] []) (fun _ z=>⟨0,0,z⟩) ?_;rintro _ _ _ ⟨Z1J,Z1a,ZCn,o,_,_,ho,hr,h⟩;refine en h ?_;refine ci (ht:=id) ho (fun ho=>?_) fun ho=>?_;rotate_left
  ·refine ci ho (fun ho=>?_) fun ho=>?_
   ·exact fin ho hr▸rt
   exact lw ho hr (fun _ z=>⟨(wr (JI+1)),z⟩)
  refine go ?_;refine ji hr (fun z=>∃x150,z (Zt.j2 Tv UJ JI Z1a x150) [(0,Z2c),(1,i6 UJ),(7,i6 JI),(8,i6 x150),(9,i6 Z1a)] []) ?_ ?_
  ·rintro _ _ ⟨x150,Zwg,o,_,ho,hr,h⟩;refine en h ?_;exact lw ho hr (fun _ z=>⟨x150,(wr (Z1a+1)),z⟩)
  refine gg ?_;refine ip 0 ho fun Znr ho ZCo=>?_;refine ld 0 ?_;refine kv XF.ok ho fun TL ho=>?_;refine cb ho (fun ho=>?_) fun ho=>?_
  ·exact mi ho hr (fun _ z=>⟨(wr (Z1J+1)),z⟩)
  exact mi ho hr (fun _ z=>⟨Z1J,z⟩)
 refine lo ho hr (fun z=>∃K3,z (.l2 x43 K3) [(0,Z2c),(1,i6 UJ),(5,i6 x43),(6,i6 K3)] []) (fun _ z=>⟨0,z⟩) ?_;rintro _ _ _ ⟨K3,m80,o,_,_,ho,hr,h⟩;refine en h ?_;refine ci (ht:=id) ho (fun ho=>?_) fun ho=>?_;rotate_left
 ·exact lw ho hr (fun _ z=>⟨(wr (x43+1)),z⟩)
 refine go ?_;refine CP.seq ?_;refine go ?_;refine ji hr (fun z=>∃ZcX,z (Zt.j1 Tv UJ x43 K3 ZcX) [(0,Z2c),(1,i6 UJ),(5,i6 x43),(6,i6 K3),(53,.bool ZcX)] []) ?_ ?_
 ·rintro _ _ ⟨ZcX,Zwa,o,_,ho,hr,h⟩;refine en h ?_;refine cb ho (fun ho=>?_) fun ho=>?_
  ·exact fin ho hr▸rt
  exact lw ho hr (fun _ z=>⟨(wr (K3+1)),z⟩)
 refine dr ?_;refine ge 0 ho fun x83 ho p81 ZsB=>?_;refine gu 0 ?_;refine ge 2 ho fun x87 ho p85 ZsC=>?_;refine gu 0 ?_;refine DA.ph 0 8 ?_;refine DT.tk 0 ?_;refine DT.tk 1 ?_;refine DT.tv 2 rfl (Val.ie rfl rfl ZsB) ?_;refine tk 3 ?_;refine DT.tk 4 ?_;refine DT.tk 5 ?_;refine DT.tv 6 rfl (Val.ie rfl rfl ZsC) ?_;refine tk 7 ?_;refine dn ?_;refine d1 8 ?_;refine kv TM.ok ho fun t89 ho=>?_;refine d1 9 ?_;rcases TD ho with ⟨hc,ho⟩|⟨hc,ho⟩
 ·have ZiR:=hc;clear hc;refine ge 4 ho fun x93 ho p91 Z9j=>?_;refine gu 0 ?_;refine ge 6 ho fun x97 ho p95 Zfy=>?_;refine gu 0 ?_;refine DA.ph 10 18 ?_;refine DT.is (d:=30) (b:=true) rfl ZiR ?_;refine DT.tk 10 ?_;refine DT.tk 11 ?_;refine DT.tv 12 rfl (Val.ie rfl rfl Z9j) ?_;refine tk 13 ?_;refine DT.tk 14 ?_;refine DT.tk 15 ?_;refine DT.tv 16 rfl (Val.ie rfl rfl Zfy) ?_;refine tk 17 ?_;refine dn ?_;refine d1 18 ?_;refine kv VL.ok ho fun t99 ho=>?_;refine d1 19 ?_;refine d1 20 ?_;refine d1 21 ?_;rcases TD ho with ⟨hc,ho⟩|⟨hc,ho⟩
  ·have ZsD:=hc;clear hc;refine ge 8 ho fun x103 ho ZCp Zns=>?_;refine gu 0 ?_;refine ge 10 ho fun x107 ho ZCq Znt=>?_;refine gu 0 ?_;refine DA.ph 22 30 ?_;refine DT.is (d:=42) (b:=true) rfl ZsD ?_;refine DT.tk 22 ?_;refine DT.tk 23 ?_;refine DT.tv 24 rfl (Val.ie rfl rfl Zns) ?_;refine tk 25 ?_;refine DT.tk 26 ?_;refine DT.tk 27 ?_;refine DT.tv 28 rfl (Val.ie rfl rfl Znt) ?_;refine tk 29 ?_;refine dn ?_;refine d1 30 ?_;refine kv VL.ok ho fun t109 ho=>?_;refine d1 31 ?_;refine d1 32 ?_;refine dz ?_;exact mi ho hr (fun _ z=>⟨(!t109),z⟩)
  have ZsE:=(bf hc)
  clear hc;refine DA.ph 22 30 ?_;refine DT.is (d:=42) (b:=false) rfl ZsE ?_;refine DT.tn 22 ?_;refine DT.tn 23 ?_;refine DT.tn 24 ?_;refine DT.tn 25 ?_;refine DT.tn 26 ?_;refine DT.tn 27 ?_;refine DT.tn 28 ?_;refine DT.tn 29 ?_;refine dn ?_;refine DA.ph 30 31 ?_;refine DT.tn 30 ?_;refine dn ?_;refine DA.ph 31 32 ?_;refine DT.tn 31 ?_;refine dn ?_;refine d1 32 ?_;refine dz ?_;exact mi ho hr (fun _ z=>⟨false,z⟩)
 have ZsF:=(bf hc)
 clear hc;refine DA.ph 10 18 ?_;refine DT.is (d:=30) (b:=false) rfl ZsF ?_;refine DT.tn 10 ?_;refine DT.tn 11 ?_;refine DT.tn 12 ?_;refine DT.tn 13 ?_;refine DT.tn 14 ?_;refine DT.tn 15 ?_;refine DT.tn 16 ?_;refine DT.tn 17 ?_;refine dn ?_;refine DA.ph 18 19 ?_;refine DT.tn 18 ?_;refine dn ?_;refine DA.ph 19 20 ?_;refine DT.tn 19 ?_;refine dn ?_;refine d1 20 ?_;refine d1 21 ?_;refine DA.ph 22 30 ?_;refine DT.tn 22 ?_;refine DT.tn 23 ?_;refine DT.tn 24 ?_;refine DT.tn 25 ?_;refine DT.tn 26 ?_;refine DT.tn 27 ?_;refine DT.tn 28 ?_;refine DT.tn 29 ?_;refine dn ?_;refine DA.ph 30 31 ?_;refine DT.tn 30 ?_;refine dn ?_;refine DA.ph 31 32 ?_;refine DT.tn 31 ?_;refine dn ?_;refine d1 32 ?_;refine dz ?_;exact mi ho hr (fun _ z=>⟨false,z⟩)
inductive Zr.S where
  |start
  |l1 (Ut:Int)
  |l2 (TV:List ZE) (UW:Int)
  |l3 (TV:List ZE) (UW Z26:Int)
def Zr.j1(ZC:List Z7)(TV:List ZE)(UW:Int):Option (Zr.S⊕((List ZE)×Int)):=
  some (.inl (.l2 TV (IntKind.i64.wrap (UW+1))))
def Zr.j2(ZC:List Z7)(TV:List ZE)(UW Z26:Int)(ZcY:Bool):Option (Zr.S⊕((List ZE)×Int)):=
  if ZcY=true then(some (.inr ([],90)))else(some (.inl (.l3 TV UW (IntKind.i64.wrap (Z26+1)))))
def Zr.F(ZC:List Z7):Zr.S→Option (Zr.S⊕((List ZE)×Int))
  | .start=>if((decide ((ZC.length:Int)<1))||(decide ((ZC.length:Int)>200)))=true then(some (.inr ([],40)))else(some (.inl (.l1 0)))
  | .l1 Ut=>if Ut<(ZC.length:Int)then((elt ZC Ut).bind fun Znu=>(VF.f Znu).bind fun Znv=>if(!Znv)=true then(some (.inr ([],40)))else(some (.inl (.l1 (IntKind.i64.wrap (Ut+1))))))else((ZJ.f ZC).bind fun t218=>(elt ZC (IntKind.i64.wrap ((ZC.length:Int)-1))).bind fun ZcZ=>(if(!t218.2)=true then(some true)else((Zt.f t218.1 (ZC.length:Int)).bind fun t228=>some (!t228))).bind fun t229=>if(t229||((decide (ZcZ.Op≠31))&&(decide (ZcZ.Op≠32))))=true then(some (.inr ([],90)))else(some (.inl (.l2 t218.1 0))))
  | .l2 TV UW=>if UW<(ZC.length:Int)then((elt ZC UW).bind fun Znw=>(if Znw.Op≠26 then((elt ZC UW).bind fun Zfz=>some (decide (Zfz.Op≠27)))else(some false)).bind fun Znx=>if Znx=true then(Zr.j1 ZC TV UW)else((elt ZC UW).bind fun Zny=>(if Zny.A≤UW then(some true)else((elt ZC UW).bind fun Znz=>some (decide (Znz.A≥(ZC.length:Int))))).bind fun ZfA=>if ZfA=true then(some (.inr ([],90)))else(some (.inl (.l3 TV UW 0)))))else(some (.inr (TV,0)))
  | .l3 TV UW Z26=>if Z26<(TV.length:Int)then((elt TV Z26).bind fun ZnA=>(elt ZC UW).bind fun ZnB=>(XF.f ZnA ZnB.A).bind fun ZnC=>if ZnC=true then((elt TV Z26).bind fun ZnD=>(XF.f ZnD UW).bind fun ZiS=>Zr.j2 ZC TV UW Z26 (!ZiS))else(Zr.j2 ZC TV UW Z26 false))else(Zr.j1 ZC TV UW)
def Zr.f(ZC:List Z7):Option ((List ZE)×Int):=Zw (Zr.F ZC) .start
theorem Zr.ok{ZC Yt}(r)(H:Zr.f ZC=some r):Ok Tryz.prog 100 [Yt] [Z9 Z8 Yt ZC] fun v=>HO.ex fun u0:Value=>HO.Yr (v=.tuple #[u0,i6 r.2]) (HO.Yk [HO.ofP (Z9 Y3 u0 r.1)]):=by
 refine oq 122 Tryz.func100 fun w hV see pb=>?_;obtain⟨m0,o,ho,hr⟩:=rn H;refine sj 4 [0] 17 ho ?_ ?_;rotate_left
 ·refine bb 13 (fun hq3=>?_) fun hq3=>?_
  ·exact jb (Vi hq3)
  exact jb (Vj hq3 rfl)
 refine gg ?_;refine cb ho (fun ho=>?_) fun ho=>?_
 ·exact fin ho hr▸rt (fun _ h=>sQ [] (St.know (fun h _=>Z9.nil Y3 h) h)) (hk:=fun a b p s=>⟨_,rfl,⟨em,em,Dj.YM _,Sub.em _,Sub.em _,p.get 0 rfl,trivial⟩⟩)
 obtain rfl:=sI ho;refine CP.loop (fun cl1 a w2=>∃Ut:Int,cl1≤m0∧iter (Zr.F ZC) cl1 (.l1 Ut)=some r∧Env ⟨122,[]⟩ [(0,Yt),(4,i6 Ut)] a∧St w em hV [Z9 Z8 Yt ZC] [] w2) m0 (fun a w2 ha hw=>⟨0,Nat.le_refl _,hr,ha.sub sb,hw⟩) ?_;clear hr;rintro cl1 a w2 ⟨Ut,Z9e,hi,ha,hw⟩;obtain⟨Z60,o,Zla,ho,hr⟩:=Jc hi;refine CP.app ha hw ?_;clear ha hw a w2 hi;refine gg ?_;refine ci ho (fun ho=>?_) fun ho=>?_
 ·refine ip 0 ho fun Znu ho ZCr=>?_;refine ld 0 ?_;refine kv VF.ok ho fun Znv ho=>?_;refine cb ho (fun ho=>?_) fun ho=>?_
  ·exact fin ho hr▸rt (fun _ h=>sQ [] (St.know (fun h _=>Z9.nil Y3 h) h)) (hk:=fun a b p s=>⟨_,rfl,⟨em,em,Dj.YM _,Sub.em _,Sub.em _,p.get 0 rfl,trivial⟩⟩)
  obtain rfl:=sI ho;exact QE.lower Z60 (by omega) fun a w2 ha hw=>⟨(wr (Ut+1)),(by omega),hr,ha.sub sb,(St.V5 [1] rfl hw)⟩
 refine k1 ZJ.ok ho fun t218 ho Zai=>?_;refine ip 0 ho fun ZcZ ho ZCs=>?_;refine SP.WG see 0 rfl Tryz.underlying43 rfl Tj.h Z8.KP rfl rfl rfl (fun Zwd=>gg ?_);obtain⟨t229,Zel,ho⟩:=bind_some ho;refine SP.jn 6 [0,5,7] 50 (.bool t229) ?_ ?_;rotate_left
 ·refine bc 44 Zel (fun ZsG ho=>?_) fun ZsG ho=>?_
  ·obtain rfl:=sI ho;exact jn
  obtain⟨t228,hc,ho⟩:=bind_some ho;refine SP.Z0m see (caps:=[]) (.bool t228) Zpo.h rfl rfl rfl rfl (fun w2 hs=>Zt.ok _ hc w2 (hp w2) (Sub.refl _) (aS (Zg.read (St.own 0 rfl see.sub see.dj hs) (Sub.refl _) (Sub.refl _)) (All.nil _))) ?_;clear hc;refine gg ?_;obtain rfl:=sI ho;exact jn
 clear Zel;refine gg ?_;refine sj 7 [0,5] 58 ho ?_ ?_;rotate_left
 ·refine bb 51 (fun ZfB=>?_) fun ZfB=>?_
  ·exact jb (Vi ZfB)
  refine SP.jn 3 [0,5,51] 57 (.bool ((decide (ZcZ.Op≠31))&&(decide (ZcZ.Op≠32)))) ?_ ?_
  ·refine gg ?_;exact jb (Vj ZfB rfl)
  refine bb 54 (fun ZfC=>?_) fun ZfC=>?_
  ·exact jb (WH ZfC rfl)
  exact jb (WI ZfC)
 refine gg ?_;refine cb ho (fun ho=>?_) fun ho=>?_
 ·exact fin ho hr▸rt (fun _ h=>sQ [] (St.know (fun h _=>Z9.nil Y3 h) h)) (hk:=fun a b p s=>⟨_,rfl,⟨em,em,Dj.YM _,Sub.em _,Sub.em _,p.get 0 rfl,trivial⟩⟩)
 obtain rfl:=sI ho;refine CP.loop (fun cl2 a w2=>∃TV:List ZE,∃UW:Int,∃Z5c:Value,cl2≤Z60∧iter (Zr.F ZC) cl2 (.l2 TV UW)=some r∧Env ⟨122,[]⟩ [(0,Yt),(5,Z5c),(8,i6 UW)] a∧St w em hV [Z9 Y3 Z5c TV,Z9 Z8 Yt ZC] [] w2) Z60 (fun a w2 ha hw=>⟨t218.1,0,Zai,Nat.le_refl _,hr,ha.sub sb,(St.V5 [0,3] rfl (St.Vk hw 0 rfl see))⟩) ?_;clear hr;rintro cl2 a w2 ⟨TV,UW,Z5c,Zsj,hi,ha,hw⟩;obtain⟨ZnE,o,ZwQ,ho,hr⟩:=Jc hi;refine CP.app ha hw ?_;clear ha hw a w2 hi;refine gg ?_;refine ci (ht:=id) ho (fun ho=>?_) fun ho=>?_;rotate_left
 ·exact fin ho hr▸rt (sO []) (hk:=fun a b p s=>⟨_,rfl,⟨em,em,Dj.YM _,Sub.em _,Sub.em _,p.get 0 rfl,trivial⟩⟩)
 refine go ?_;refine ji hr (fun z=>z (Zr.j1 ZC TV UW) [(0,Yt),(5,Z5c),(8,i6 UW)] []) ?_ ?_ (hb:=pe [Z9 Y3 Z5c TV,Z9 Z8 Yt ZC])
 ·rintro _ _ ⟨Zwh,o,_,ho,hr,h⟩;refine en h ?_;obtain rfl:=sI ho;exact QE.lower Zwh (by omega) fun a w2 ha hw=>⟨TV,(wr (UW+1)),Z5c,(by omega),hr,ha.sub sb,hw⟩
 refine gg ?_;refine ip 1 ho fun Znw ho ZCt=>?_;refine SP.WG see 0 rfl Tryz.underlying43 rfl Tj.h Z8.KP rfl rfl rfl (fun ZCu=>gg ?_);obtain⟨Znx,Zem,ho⟩:=bind_some ho;refine sj 7 [0,5,8] 78 ho ?_ ?_;rotate_left
 ·refine bi 71 Zem (fun ZsH ho=>?_) fun ZsH ho=>?_
  ·refine ip 3 ho fun Zfz ho ZCv=>?_;refine SP.WG see 0 rfl Tryz.underlying43 rfl Tj.h Z8.KP rfl rfl rfl (fun ZCw=>gg ?_);obtain rfl:=sI ho;exact QE.jn fun w2 hw=>(St.V5 [2,3,4,5] rfl hw)
  obtain rfl:=sI ho;exact jn
 clear Zem;refine gg ?_;refine cb ho (fun ho=>?_) fun ho=>?_
 ·exact mi ho hr (fun _ z=>z)
 refine ip 3 ho fun Zny ho ZCx=>?_;refine SP.WG see 0 rfl Tryz.underlying43 rfl V4.h Z8.Je rfl rfl rfl (fun ZCy=>gg ?_);obtain⟨ZfA,Zen,ho⟩:=bind_some ho;refine sj 9 [0,5,8] 95 ho ?_ ?_;rotate_left
 ·refine bi 86 Zen (fun ZsI ho=>?_) fun ZsI ho=>?_
  ·obtain rfl:=sI ho;exact jn
  refine ip 5 ho fun Znz ho ZCz=>?_;refine SP.WG see 0 rfl Tryz.underlying43 rfl V4.h Z8.Je rfl rfl rfl (fun ZCA=>gg ?_);obtain rfl:=sI ho;exact QE.jn fun w2 hw=>(St.V5 [2,3,4,5,6,7] rfl hw)
 clear Zen;refine gg ?_;refine cb ho (fun ho=>?_) fun ho=>?_
 ·exact fin ho hr▸rt (fun _ h=>sQ [] (St.know (fun h _=>Z9.nil Y3 h) h)) (hk:=fun a b p s=>⟨_,rfl,⟨em,em,Dj.YM _,Sub.em _,Sub.em _,p.get 0 rfl,trivial⟩⟩)
 obtain rfl:=sI ho;refine CP.loop (fun cl3 a w2=>∃Z26:Int,cl3≤ZnE∧iter (Zr.F ZC) cl3 (.l3 TV UW Z26)=some r∧Env ⟨122,[]⟩ [(0,Yt),(5,Z5c),(8,i6 UW),(9,i6 Z26)] a∧St w em hV [Z9 Y3 Z5c TV,Z9 Z8 Yt ZC] [] w2) ZnE (fun a w2 ha hw=>⟨0,Nat.le_refl _,hr,ha.sub sb,(St.V5 [4,5] rfl hw)⟩) ?_;clear hr;rintro cl3 a w2 ⟨Z26,Zsk,hi,ha,hw⟩;obtain⟨ZCB,o,ZwR,ho,hr⟩:=Jc hi;refine CP.app ha hw ?_;clear ha hw a w2 hi;refine gg ?_;refine ci (ht:=id) ho (fun ho=>?_) fun ho=>?_;rotate_left
 ·exact mi ho hr (fun _ z=>z)
 refine go ?_;refine CP.seq ?_;refine go ?_;refine ji hr (fun z=>∃ZcY,z (Zr.j2 ZC TV UW Z26 ZcY) [(0,Yt),(5,Z5c),(8,i6 UW),(9,i6 Z26),(120,.bool ZcY)] []) ?_ ?_ (hb:=pe [Z9 Y3 Z5c TV,Z9 Z8 Yt ZC])
 ·rintro _ _ ⟨ZcY,Zwi,o,_,ho,hr,h⟩;refine en h ?_;refine cb ho (fun ho=>?_) fun ho=>?_
  ·exact fin ho hr▸rt (fun _ h=>sQ [] (St.know (fun h _=>Z9.nil Y3 h) h)) (hk:=fun a b p s=>⟨_,rfl,⟨em,em,Dj.YM _,Sub.em _,Sub.em _,p.get 0 rfl,trivial⟩⟩)
  obtain rfl:=sI ho;exact QE.lower Zwi (by omega) fun a w2 ha hw=>⟨(wr (Z26+1)),(by omega),hr,ha.sub sb,hw⟩
 refine dr ?_;refine ge 0 ho fun ZnA ho Zwj Zd0=>?_;refine gu 0 ?_;refine ge 3 ho fun ZnB ho ZCC ZnF=>?_;refine DA.ghost (fun w2 h=>h.Jv see 0 rfl Z8.Je) (fun ZCD ZnG=>?_);refine gu 0 ?_;refine DA.ph 0 9 ?_;refine DT.tk 0 ?_;refine DT.tk 1 ?_;refine DT.tv 2 rfl (Val.ie rfl rfl Zd0) ?_;refine tk 3 ?_;refine DT.tk 4 ?_;refine DT.tk 5 ?_;refine DT.tv 6 rfl (Val.ie rfl rfl ZnF) ?_;refine DT.tv 7 rfl (Val.fe rfl ZnG) ?_;refine tk 8 ?_;refine dn ?_;refine d1 9 ?_;refine kv XF.ok ho fun ZnC ho=>?_;refine d1 10 ?_;rcases TD ho with ⟨hc,ho⟩|⟨hc,ho⟩
 ·have ZsJ:=hc;clear hc;refine ge 5 ho fun ZnD ho ZCE ZnH=>?_;refine gu 0 ?_;refine DA.ph 11 16 ?_;refine DT.is (d:=112) (b:=true) rfl ZsJ ?_;refine DT.tk 11 ?_;refine DT.tk 12 ?_;refine DT.tv 13 rfl (Val.ie rfl rfl ZnH) ?_;refine tk 14 ?_;refine DT.tk 15 ?_;refine dn ?_;refine d1 16 ?_;refine kv XF.ok ho fun ZiS ho=>?_;refine d1 17 ?_;refine d1 18 ?_;refine dz ?_;exact mi ho hr (fun _ z=>⟨(!ZiS),z⟩)
 have ZsK:=(bf hc)
 clear hc;refine DA.ph 11 16 ?_;refine DT.is (d:=112) (b:=false) rfl ZsK ?_;refine DT.tn 11 ?_;refine DT.tn 12 ?_;refine DT.tn 13 ?_;refine DT.tn 14 ?_;refine DT.tn 15 ?_;refine dn ?_;refine DA.ph 16 17 ?_;refine DT.tn 16 ?_;refine dn ?_;refine DA.ph 17 18 ?_;refine DT.tn 17 ?_;refine dn ?_;refine d1 18 ?_;refine dz ?_;exact mi ho hr (fun _ z=>⟨false,z⟩)
def XB.j2(Z0:Zc)(x_1:Zb)(Vn:Z7)(b14:Bool):Option Bool:=
  if b14=true then(some (decide (Vn.A<(Z0.ZA.length:Int))))else(if Vn.Op=30 then(some (decide (Vn.A<(Z0.Methods.length:Int))))else(some true))
def XB.j1(Z0:Zc)(x_1:Zb)(Vn:Z7)(b13:Bool):Option Bool:=
  if b13=true then(some (decide (Vn.A<(IntKind.i64.wrap ((x_1.Args.length:Int)+(x_1.Zk.length:Int))))))else(if Vn.Op=4 then(XB.j2 Z0 x_1 Vn (decide (Vn.Op=4)))else(XB.j2 Z0 x_1 Vn (decide (Vn.Op=5))))
def XB.f(Z0:Zc)(x_1:Zb)(Vn:Z7):Option Bool:=
  if Vn.Op=1 then(some (decide (Vn.A<(Z0.Pool.length:Int))))else(if Vn.Op=2 then(XB.j1 Z0 x_1 Vn (decide (Vn.Op=2)))else(XB.j1 Z0 x_1 Vn (decide (Vn.Op=3))))
theorem XB.ok{Z0 x_1 Vn Z6 Za Z5 UR U4 UU}(r)(ho:XB.f Z0 x_1 Vn=some r):Ok Tryz.prog 101 [.agg #[Z6,Za,Z5,i6 Z0.Zo],.agg #[UR,U4,i8 x_1.Result,.bool x_1.Reads,i6 x_1.Fuel,i6 x_1.Stack,i6 x_1.Heap,UU],.agg #[i8 Vn.Op,i6 Vn.A,i6 Vn.B]] [Z9 Z4 Z6 Z0.ZA,Z9 Z4 Za Z0.Pool,Z9 Zd Z5 Z0.Methods,Z9 kb UR x_1.Args,Z9 kb U4 x_1.Zk,Z9 Z8 UU x_1.Code] fun v=>HO.pure (v=.bool r):=by
 refine oq 47 Tryz.func101 fun w hV see pb=>?_;refine bx fun b7=>?_;refine bx fun b9=>?_;refine bx fun b11=>?_;refine ci (hf:=id) ho (fun ho=>?_) fun ho=>?_
 ·exact sI ho▸rt
 refine oi r (fun z=>∃b13,z (XB.j1 Z0 x_1 Vn b13) [(3,pt b7),(4,pt b9),(5,pt b11),(8,i8 Vn.Op),(17,.bool b13)] [Zl b11 [i8 Vn.Op,i6 Vn.A,i6 Vn.B] 43,Zl b9 [UR,U4,i8 x_1.Result,.bool x_1.Reads,i6 x_1.Fuel,i6 x_1.Stack,i6 x_1.Heap,UU] 34,Zl b7 [Z6,Za,Z5,i6 Z0.Zo] 25]) ?_ ?_;rotate_left
 ·refine gg ?_;refine ci ho (fun ho=>?_) fun ho=>?_
  ·exact mo ho (fun _ z=>⟨(decide (Vn.Op=2)),z⟩)
  exact mo ho (fun _ z=>⟨(decide (Vn.Op=3)),z⟩)
 rintro _ _ ⟨b13,ho,h⟩;refine en h ?_;refine cb (hf:=id) ho (fun ho=>?_) fun ho=>?_
 ·exact sI ho▸rt
 refine oi r (fun z=>∃b14,z (XB.j2 Z0 x_1 Vn b14) [(3,pt b7),(5,pt b11),(8,i8 Vn.Op),(30,.bool b14)] [Zl b11 [i8 Vn.Op,i6 Vn.A,i6 Vn.B] 43,Zl b7 [Z6,Za,Z5,i6 Z0.Zo] 25]) ?_ ?_ (hb:=pe [Z9 Z4 Z6 Z0.ZA,Z9 Z4 Za Z0.Pool,Z9 Zd Z5 Z0.Methods])
 ·rintro _ _ ⟨b14,ho,h⟩;refine en h ?_;refine cb ho (fun ho=>?_) fun ho=>?_
  ·exact sI ho▸rt
  refine ci ho (fun ho=>?_) fun ho=>?_
  ·exact sI ho▸rt
  exact sI ho▸rt
 refine gg ?_;refine ci ho (fun ho=>?_) fun ho=>?_
 ·exact mo ho (fun _ z=>⟨(decide (Vn.Op=4)),z⟩) (sO [0,2])
 exact mo ho (fun _ z=>⟨(decide (Vn.Op=5)),z⟩) (sO [0,2])
def Xa.f(Ue:List Int)(VI:Int):Option (List Int):=
  if(([]:List Int).length+Ue.length)*1≤140737488355328 then(if((([]:List Int)++Ue).length + [VI].length)*1≤140737488355328 then(some ((([]:List Int)++Ue) ++ [VI]))else none)else none
theorem Xa.ok{Ue VI Z1w}(r)(ho:Xa.f Ue VI=some r):Ok Tryz.prog 164 [Z1w,i8 VI] [Z9 kb Z1w Ue] fun v=>HO.ex fun u0:Value=>HO.Yr (v=u0) (HO.Yk [Zg kb 5 u0 r]):=by
 refine oq 13 Tryz.func164 fun w hV see pb=>?_;refine SP.ZbW (k:=kb) Tryz.underlying31 Z5M.h rfl rfl (fun v2=>gg ?_);refine ap 0 0 ho fun v4 ho=>?_;refine li (h:=fun _=>id) kb [VI] fun v6=>?_;refine fz 0 ?_;refine ap 0 0 ho fun v8 ho=>?_;exact sI ho▸rt (sO [0])
def Ta.f(Z0:Zb):Option (List Int):=
  if(([]:List Int).length+Z0.Args.length)*1≤140737488355328 then(if((([]:List Int)++Z0.Args).length+Z0.Zk.length)*1≤140737488355328 then(some ((([]:List Int)++Z0.Args)++Z0.Zk))else none)else none
theorem Ta.ok{Z0 Xu YP XH}(r)(ho:Ta.f Z0=some r):Ok Tryz.prog 216 [.agg #[Xu,YP,i8 Z0.Result,.bool Z0.Reads,i6 Z0.Fuel,i6 Z0.Stack,i6 Z0.Heap,XH]] [Z9 kb Xu Z0.Args,Z9 kb YP Z0.Zk,Z9 Z8 XH Z0.Code] fun v=>HO.ex fun u0:Value=>HO.Yr (v=u0) (HO.Yk [Zg kb 5 u0 r]):=by
 refine oq 12 Tryz.func216 fun w hV see pb=>?_;refine bx fun b4=>?_;refine sn kb 5 ?_;refine ap 0 0 ho fun v7 ho=>?_;refine ap 0 1 ho fun v9 ho=>?_;exact sI ho▸rt (sO [0])
def VW.f(x_0:Zb)(VQ:Int):Option Int:=
  (Ta.f x_0).bind fun t6=>(elt t6 VQ).bind fun x10=>some x10
theorem VW.ok{x_0 VQ KH Tt KI}(r)(ho:VW.f x_0 VQ=some r):Ok Tryz.prog 165 [.agg #[KH,Tt,i8 x_0.Result,.bool x_0.Reads,i6 x_0.Fuel,i6 x_0.Stack,i6 x_0.Heap,KI],i6 VQ] [Z9 kb KH x_0.Args,Z9 kb Tt x_0.Zk,Z9 Z8 KI x_0.Code] fun v=>HO.pure (v=i8 r):=by
 refine oq 10 Tryz.func165 fun w hV see pb=>?_;refine bx fun b4=>?_;refine k1 Ta.ok ho fun t6 ho v7=>?_;obtain⟨x10,Zd1,ho⟩:=Yu ho;refine SP.Wo (fun w2 hw=>Zg.whole (St.own 0 rfl see.sub see.dj hw)) Tryz.underlying31 Tj.h Zd1.1 Zd1.2 rfl rfl rfl rfl (fun p9 Zwk=>?_);refine SP.val (Val.Vu (off:=0) (k:=kb) (fun w2 hw=>Zg.whole (St.own 0 rfl see.sub see.dj hw)) Zd1.2 Zwk (fun _ _ e=>by subst e;rfl) Tryz.underlying5 rfl rfl) rfl rfl rfl (gg ?_);exact sI ho▸rt
def Wt.f(Ue:List Int)(VI:Int):Option ((List Int)×Int):=
  if(Ue.length:Int)=0 then(some ([],101))else((if VI≠0 then((elt Ue (IntKind.i64.wrap ((Ue.length:Int)-1))).bind fun x7=>some (decide (x7≠VI)))else(some false)).bind fun t8=>if t8=true then(some ([],100))else(if(0:Int)≤(IntKind.i64.wrap ((Ue.length:Int)-1))∧(IntKind.i64.wrap ((Ue.length:Int)-1))≤(Ue.length:Int)then(some ((Ue.take (IntKind.i64.wrap ((Ue.length:Int)-1):Int).toNat),0))else none))
theorem Wt.ok{Ue VI Z1w}(r)(ho:Wt.f Ue VI=some r):Ok Tryz.prog 166 [Z1w,i8 VI] [Z9 kb Z1w Ue] fun v=>HO.ex fun u0:Value=>HO.Yr (v=.tuple #[u0,i6 r.2]) (HO.Yk [HO.ofP (Z9 kb u0 r.1)]):=by
 refine oq 26 Tryz.func166 fun w hV see pb=>?_;refine ci ho (fun ho=>?_) fun ho=>?_
 ·exact sI ho▸rt (fun _ h=>sQ [] (St.know (fun h _=>Z9.nil kb h) h)) (hk:=fun a b p s=>⟨_,rfl,⟨em,em,Dj.YM _,Sub.em _,Sub.em _,p.get 0 rfl,trivial⟩⟩)
 obtain⟨t8,Zke,ho⟩:=bind_some ho;refine sj 7 [0,6] 22 ho ?_ ?_
 ·clear Zke;refine gg ?_;refine cb ho (fun ho=>?_) fun ho=>?_
  ·exact sI ho▸rt (fun _ h=>sQ [] (St.know (fun h _=>Z9.nil kb h) h)) (hk:=fun a b p s=>⟨_,rfl,⟨em,em,Dj.YM _,Sub.em _,Sub.em _,p.get 0 rfl,trivial⟩⟩)
  obtain⟨hz,ho⟩:=Xn ho;refine SP.Z8c see 0 rfl Tryz.underlying31 Tj.h rfl rfl hz rfl rfl (fun v10=>?_);clear hz;refine gg ?_;exact sI ho▸rt (sO []) (hk:=fun a b p s=>⟨_,rfl,⟨em,em,Dj.YM _,Sub.em _,Sub.em _,p.get 0 rfl,trivial⟩⟩)
 refine bi 15 Zke (fun hq4 ho=>?_) fun hq4 ho=>?_
 ·refine ip 0 ho fun x7 ho p5=>?_;obtain rfl:=sI ho;exact QE.jn fun w2 hw=>(St.V5 [1] rfl hw)
 obtain rfl:=sI ho;exact jn
inductive YL.S where
  |start
  |l1 (l13:List Int) (Uh:Int)
def YL.F(Ue JJ:List Int):YL.S→Option (YL.S⊕((List Int)×Int))
  | .start=>if(Ue.length:Int)<(JJ.length:Int)then(some (.inr ([],101)))else(some (.inl (.l1 Ue (IntKind.i64.wrap ((JJ.length:Int)-1)))))
  | .l1 l13 Uh=>if Uh≥0 then((elt JJ Uh).bind fun x19=>(Wt.f l13 x19).bind fun t20=>if t20.2≠0 then(some (.inr ([],t20.2)))else(some (.inl (.l1 t20.1 (IntKind.i64.wrap (Uh-1))))))else(some (.inr (l13,0)))
def YL.f(Ue JJ:List Int):Option ((List Int)×Int):=Zw (YL.F Ue JJ) .start
theorem YL.ok{Ue JJ Z1w Z50}(r)(H:YL.f Ue JJ=some r):Ok Tryz.prog 167 [Z1w,Z50] [Z9 kb Z1w Ue,Z9 kb Z50 JJ] fun v=>HO.ex fun u0:Value=>HO.Yr (v=.tuple #[u0,i6 r.2]) (HO.Yk [HO.ofP (Z9 kb u0 r.1)]):=by
 refine oq 35 Tryz.func167 fun w hV see pb=>?_;obtain⟨m0,o,ho,hr⟩:=rn H;refine ci ho (fun ho=>?_) fun ho=>?_
 ·exact fin ho hr▸rt (fun _ h=>sQ [] (St.know (fun h _=>Z9.nil kb h) h)) (hk:=fun a b p s=>⟨_,rfl,⟨em,em,Dj.YM _,Sub.em _,Sub.em _,p.get 0 rfl,trivial⟩⟩)
 obtain rfl:=sI ho;refine CP.loop (fun cl1 a w2=>∃l13:List Int,∃Uh:Int,∃v14:Value,cl1≤m0∧iter (YL.F Ue JJ) cl1 (.l1 l13 Uh)=some r∧Env ⟨35,[]⟩ [(0,v14),(1,Z50),(6,i6 Uh)] a∧St w em hV [Z9 kb v14 l13,Z9 kb Z50 JJ] [] w2) m0 (fun a w2 ha hw=>⟨Ue,(wr ((JJ.length:Int)-1)),Z1w,Nat.le_refl _,hr,ha.sub sb,hw⟩) ?_;clear hr;rintro cl1 a w2 ⟨l13,Uh,v14,Z9e,hi,ha,hw⟩;obtain⟨m16,o,Zy9,ho,hr⟩:=Jc hi;refine CP.app ha hw ?_;clear ha hw a w2 hi;refine gg ?_;refine ci ho (fun ho=>?_) fun ho=>?_;rotate_left
 ·exact fin ho hr▸rt (sO []) (hk:=fun a b p s=>⟨_,rfl,⟨em,em,Dj.YM _,Sub.em _,Sub.em _,p.get 0 rfl,trivial⟩⟩)
 refine ip 1 ho fun x19 ho p17=>?_;obtain⟨t20,hc,ho⟩:=bind_some ho;refine SP.Ti see (caps:=[]) _ Zbv.h rfl rfl rfl rfl (fun w2 hP hs sub ap=>Wt.ok _ hc w2 hP sub (aS (ap.get 1 rfl) (All.nil _))) (SP.k1 fun v21=>?_);refine SP.imp (fun w2 h=>St.toP 0 rfl h) ?_;clear hc;refine gg ?_;refine ci ho (fun ho=>?_) fun ho=>?_
 ·exact fin ho hr▸rt (fun _ h=>sQ [] (St.know (fun h _=>Z9.nil kb h) h)) (hk:=fun a b p s=>⟨_,rfl,⟨em,em,Dj.YM _,Sub.em _,Sub.em _,p.get 0 rfl,trivial⟩⟩)
 obtain rfl:=sI ho;exact QE.lower m16 (by omega) fun a w2 ha hw=>⟨t20.1,(wr (Uh-1)),v21,(by omega),hr,ha.sub sb,(St.V5 [0,3] rfl hw)⟩
def Y7.j4(Zn:Int)(b4:Bool):Option (ByteArray×ByteArray):=
  if b4=true then(some ((⟨#[112,112]⟩:ByteArray),(⟨#[112]⟩:ByteArray)))else(if Zn=21 then(some ((⟨#[112]⟩:ByteArray),(⟨#[112]⟩:ByteArray)))else(if Zn=22 then(some ((⟨#[110]⟩:ByteArray),(⟨#[114]⟩:ByteArray)))else(if Zn=23 then(some ((⟨#[114,110]⟩:ByteArray),(⟨#[110]⟩:ByteArray)))else(if Zn=24 then(some ((⟨#[114,110,110]⟩:ByteArray),(⟨#[]⟩:ByteArray)))else(if Zn=25 then(some ((⟨#[114]⟩:ByteArray),(⟨#[110]⟩:ByteArray)))else(if Zn=27 then(some ((⟨#[110]⟩:ByteArray),(⟨#[]⟩:ByteArray)))else(if Zn=6 then(some ((⟨#[46]⟩:ByteArray),(⟨#[]⟩:ByteArray)))else(some ((⟨#[63]⟩:ByteArray),(⟨#[63]⟩:ByteArray))))))))))
def Y7.j3(Zn:Int)(b3:Bool):Option (ByteArray×ByteArray):=
  if b3=true then(some ((⟨#[112]⟩:ByteArray),(⟨#[110]⟩:ByteArray)))else(if Zn=19 then(Y7.j4 Zn (decide (Zn=19)))else(Y7.j4 Zn (decide (Zn=20))))
def Y7.j2(Zn:Int)(b2:Bool):Option (ByteArray×ByteArray):=
  if b2=true then(some ((⟨#[110,110]⟩:ByteArray),(⟨#[110]⟩:ByteArray)))else(if Zn=16 then(some ((⟨#[110,110]⟩:ByteArray),(⟨#[112]⟩:ByteArray)))else(if Zn=17 then(Y7.j3 Zn (decide (Zn=17)))else(Y7.j3 Zn (decide (Zn=18)))))
def Y7.j1(Zn:Int)(b1:Bool):Option (ByteArray×ByteArray):=
  if b1=true then(some ((⟨#[]⟩:ByteArray),(⟨#[]⟩:ByteArray)))else(if Zn=9 then(Y7.j2 Zn (decide (Zn=9)))else(if Zn=10 then(Y7.j2 Zn (decide (Zn=10)))else(if Zn=11 then(Y7.j2 Zn (decide (Zn=11)))else(if Zn=12 then(Y7.j2 Zn (decide (Zn=12)))else(if Zn=13 then(Y7.j2 Zn (decide (Zn=13)))else(if Zn=14 then(Y7.j2 Zn (decide (Zn=14)))else(Y7.j2 Zn (decide (Zn=15)))))))))
def Y7.f(Zn:Int):Option (ByteArray×ByteArray):=
  if Zn=0 then(Y7.j1 Zn (decide (Zn=0)))else(if Zn=26 then(Y7.j1 Zn (decide (Zn=26)))else(if Zn=28 then(Y7.j1 Zn (decide (Zn=28)))else(if Zn=29 then(Y7.j1 Zn (decide (Zn=29)))else(Y7.j1 Zn (decide (Zn=32))))))
theorem Y7.ok{Zn}(r)(ho:Y7.f Zn=some r):Ok Tryz.prog 217 [i8 Zn] [] fun v=>HO.pure (v=.tuple #[.string r.1,.string r.2]):=by
 refine oq (h:=fun _ _ _=>id) 41 Tryz.func217 fun w hV see pb=>?_;refine go ?_;refine CP.seq ?_;refine go ?_;refine oi r (fun z=>∃b1,z (Y7.j1 Zn b1) [(4,i8 Zn),(5,.bool b1)] []) ?_ ?_;rotate_left
 ·refine gg ?_;refine ci ho (fun ho=>?_) fun ho=>?_
  ·exact mo ho (fun _ z=>⟨(decide (Zn=0)),z⟩)
  refine ci ho (fun ho=>?_) fun ho=>?_
  ·exact mo ho (fun _ z=>⟨(decide (Zn=26)),z⟩)
  refine ci ho (fun ho=>?_) fun ho=>?_
  ·exact mo ho (fun _ z=>⟨(decide (Zn=28)),z⟩)
  refine ci ho (fun ho=>?_) fun ho=>?_
  ·exact mo ho (fun _ z=>⟨(decide (Zn=29)),z⟩)
  exact mo ho (fun _ z=>⟨(decide (Zn=32)),z⟩)
 rintro _ _ ⟨b1,ho,h⟩;refine en h ?_;refine cb (hf:=id) ho (fun ho=>?_) fun ho=>?_
 ·exact sI ho▸rt
 refine oi r (fun z=>∃b2,z (Y7.j2 Zn b2) [(4,i8 Zn),(11,.bool b2)] []) ?_ ?_;rotate_left
 ·refine gg ?_;refine ci ho (fun ho=>?_) fun ho=>?_
  ·exact mo ho (fun _ z=>⟨(decide (Zn=9)),z⟩)
  refine ci ho (fun ho=>?_) fun ho=>?_
  ·exact mo ho (fun _ z=>⟨(decide (Zn=10)),z⟩)
  refine ci ho (fun ho=>?_) fun ho=>?_
  ·exact mo ho (fun _ z=>⟨(decide (Zn=11)),z⟩)
  refine ci ho (fun ho=>?_) fun ho=>?_
  ·exact mo ho (fun _ z=>⟨(decide (Zn=12)),z⟩)
  refine ci ho (fun ho=>?_) fun ho=>?_
  ·exact mo ho (fun _ z=>⟨(decide (Zn=13)),z⟩)
  refine ci ho (fun ho=>?_) fun ho=>?_
  ·exact mo ho (fun _ z=>⟨(decide (Zn=14)),z⟩)
  exact mo ho (fun _ z=>⟨(decide (Zn=15)),z⟩)
 rintro _ _ ⟨b2,ho,h⟩;refine en h ?_;refine cb ho (fun ho=>?_) fun ho=>?_
 ·exact sI ho▸rt
 refine ci (hf:=id) ho (fun ho=>?_) fun ho=>?_
 ·exact sI ho▸rt
 refine oi r (fun z=>∃b3,z (Y7.j3 Zn b3) [(4,i8 Zn),(21,.bool b3)] []) ?_ ?_;rotate_left
 ·refine gg ?_;refine ci ho (fun ho=>?_) fun ho=>?_
  ·exact mo ho (fun _ z=>⟨(decide (Zn=17)),z⟩)
  exact mo ho (fun _ z=>⟨(decide (Zn=18)),z⟩)
 rintro _ _ ⟨b3,ho,h⟩;refine en h ?_;refine cb (hf:=id) ho (fun ho=>?_) fun ho=>?_
 ·exact sI ho▸rt
 refine oi r (fun z=>∃b4,z (Y7.j4 Zn b4) [(4,i8 Zn),(24,.bool b4)] []) ?_ ?_;rotate_left
 ·refine gg ?_;refine ci ho (fun ho=>?_) fun ho=>?_
  ·exact mo ho (fun _ z=>⟨(decide (Zn=19)),z⟩)
  exact mo ho (fun _ z=>⟨(decide (Zn=20)),z⟩)
 rintro _ _ ⟨b4,ho,h⟩;refine en h ?_;refine cb ho (fun ho=>?_) fun ho=>?_
 ·exact sI ho▸rt
 refine ci ho (fun ho=>?_) fun ho=>?_
 ·exact sI ho▸rt
 refine ci ho (fun ho=>?_) fun ho=>?_
 ·exact sI ho▸rt
 refine ci ho (fun ho=>?_) fun ho=>?_
 ·exact sI ho▸rt
 refine ci ho (fun ho=>?_) fun ho=>?_
 ·exact sI ho▸rt
 refine ci ho (fun ho=>?_) fun ho=>?_
 ·exact sI ho▸rt
 refine ci ho (fun ho=>?_) fun ho=>?_
 ·exact sI ho▸rt
 refine ci ho (fun ho=>?_) fun ho=>?_
 ·exact sI ho▸rt
 exact sI ho▸rt
def UD.f(Tq:Int):Option Int:=
  if Tq=110 then(some 1)else(if Tq=112 then(some 2)else(if Tq=114 then(some 3)else(some 0)))
theorem UD.ok{Tq}(r)(ho:UD.f Tq=some r):Ok Tryz.prog 248 [i8 Tq] [] fun v=>HO.pure (v=i8 r):=by
 refine oq 10 Tryz.func248 fun w hV see pb=>?_;refine ci ho (fun ho=>?_) fun ho=>?_
 ·exact sI ho▸rt
 refine ci ho (fun ho=>?_) fun ho=>?_
 ·exact sI ho▸rt
 refine ci ho (fun ho=>?_) fun ho=>?_
 ·exact sI ho▸rt
 exact sI ho▸rt
inductive XC.S where
  |start
  |l1 (l11:List Int) (WZ:Int)
def XC.F(s_0:ByteArray):XC.S→Option (XC.S⊕(List Int))
  | .start=>some (.inl (.l1 [] 0))
  | .l1 l11 WZ=>if WZ<(s_0.size:Int)then((Z5G s_0 WZ).bind fun Uh=>(UD.f Uh).bind fun t16=>if(l11.length + [t16].length)*1≤140737488355328 then(some (.inl (.l1 (l11 ++ [t16]) (IntKind.i64.wrap (WZ+1)))))else none)else(some (.inr l11))
def XC.f(s_0:ByteArray):Option (List Int):=Zw (XC.F s_0) .start
theorem XC.ok{s_0}(r)(H:XC.f s_0=some r):Ok Tryz.prog 218 [.string s_0] [] fun v=>HO.ex fun u0:Value=>HO.Yr (v=u0) (HO.Yk [Zg kb 5 u0 r]):=by
 refine oq 19 Tryz.func218 fun w hV see pb=>?_;obtain⟨m0,o,ho,hr⟩:=rn H;refine lo ho hr (fun z=>∃l11 WZ v12,z (.l1 l11 WZ) [(0,.string s_0),(3,v12),(4,i6 WZ)] [Zg kb 5 v12 l11]) (fun _ z=>⟨[],0,nl,z⟩) ?_ (fun _ hw=>(nO kb 5 hw));rintro _ _ _ ⟨l11,WZ,v12,m14,o,_,_,ho,hr,h⟩;refine en h ?_;refine SP.val (Val.ZtG Tryz.underlying9 rfl) rfl rfl rfl (gg ?_);refine ci ho (fun ho=>?_) fun ho=>?_
 ·obtain⟨Uh,hx,ho⟩:=bind_some ho;refine SP.val (Val.ZlR Tryz.underlying9 hx rfl rfl) rfl rfl rfl ?_;clear hx;refine kv UD.ok ho fun t16 ho=>?_;refine li (h:=fun _=>id) kb [t16] fun v17=>?_;refine fz 0 ?_;refine ap 0 0 ho fun v19 ho=>?_;exact lw ho hr (fun _ z=>⟨(l11 ++ [t16]),(wr (WZ+1)),v19,z⟩)
 exact fin ho hr▸rt (sO [0])
def Kr.f(Zn:Int):Option ((List Int)×(List Int)×Bool):=
  (Y7.f Zn).bind fun t1=>if(t1.1.toList==(⟨#[63]⟩:ByteArray).toList)=true then(some ([],[],false))else((XC.f t1.1).bind fun t4=>(XC.f t1.2).bind fun t7=>some (t4,t7,true))
theorem Kr.ok{Zn}(r)(ho:Kr.f Zn=some r):Ok Tryz.prog 168 [i8 Zn] [] fun v=>HO.ex fun u0:Value=>HO.ex fun u1:Value=>HO.Yr (v=.tuple #[u0,u1,.bool r.2.2]) (HO.Yk [Zg kb 5 u0 r.1,Zg kb 5 u1 r.2.1]):=by
 refine oq 18 Tryz.func168 fun w hV see pb=>?_;refine kv Y7.ok ho fun t1 ho=>?_;refine SP.val (Val.ZlD rfl rfl) rfl rfl rfl (gg ?_);refine cb ho (fun ho=>?_) fun ho=>?_
 ·exact sI ho▸rt (fun _ h=>sQ [1,0] (nO kb 5 (nO kb 5 h)))
 refine k1 XC.ok ho fun t4 ho v5=>?_;refine k1 XC.ok ho fun t7 ho v8=>?_;exact sI ho▸rt (sO [1,0])
inductive Yh.S where
  |start
  |l1 (t117:(List Int)×(List Int)×Bool) (Z8s:List Int) (Z34:Int)
def Yh.F(Z0:Zc)(x_1:Zb)(Vn:Z7)(Uf:List Int):Yh.S→Option (Yh.S⊕((List Int)×Int))
  | .start=>if Vn.Op=1 then((elt Z0.Pool Vn.A).bind fun WS=>(Xa.f Uf WS.Kind).bind fun t19=>some (.inr (t19,0)))else(if Vn.Op=2 then((VW.f x_1 Vn.A).bind fun t22=>(Xa.f Uf t22).bind fun t23=>some (.inr (t23,0)))else(if Vn.Op=3 then((VW.f x_1 Vn.A).bind fun t26=>(Wt.f Uf t26).bind fun t27=>some (.inr (t27.1,t27.2)))else(if Vn.Op=4 then((elt Z0.ZA Vn.A).bind fun x32=>(Xa.f Uf x32.Kind).bind fun t35=>some (.inr (t35,0)))else(if Vn.Op=5 then((elt Z0.ZA Vn.A).bind fun x40=>(Wt.f Uf x40.Kind).bind fun t43=>some (.inr (t43.1,t43.2)))else(if Vn.Op=7 then(if(Uf.length:Int)<1 then(some (.inr ([],101)))else((elt Uf (IntKind.i64.wrap ((Uf.length:Int)-1))).bind fun T9=>(Xa.f Uf T9).bind fun t50=>some (.inr (t50,0))))else(if Vn.Op=8 then(if(Uf.length:Int)<2 then(some (.inr ([],101)))else((elt Uf (IntKind.i64.wrap ((Uf.length:Int)-1))).bind fun x58=>(elt Uf (IntKind.i64.wrap ((Uf.length:Int)-2))).bind fun x62=>if(0:Int)≤(IntKind.i64.wrap ((Uf.length:Int)-2))∧(IntKind.i64.wrap ((Uf.length:Int)-2))≤(Uf.length:Int)then((Xa.f (Uf.take (IntKind.i64.wrap ((Uf.length:Int)-2):Int).toNat) x58).bind fun t89=>(Xa.f t89 x62).bind fun Vv=>some (.inr (Vv,0)))else none))else(if Vn.Op=30 then((elt Z0.Methods Vn.A).bind fun x97=>(YL.f Uf x97.Args).bind fun Jz=>if Jz.2≠0 then(some (.inr ([],Jz.2)))else((elt Z0.Methods Vn.A).bind fun ZnI=>(Xa.f Jz.1 ZnI.Result).bind fun ZnJ=>some (.inr (ZnJ,0))))else(if Vn.Op=31 then((Wt.f Uf x_1.Result).bind fun ZiT=>some (.inr (ZiT.1,ZiT.2)))else((Kr.f Vn.Op).bind fun t117=>(YL.f Uf t117.1).bind fun Z6N=>if Z6N.2≠0 then(some (.inr ([],Z6N.2)))else(some (.inl (.l1 t117 Z6N.1 0))))))))))))
  | .l1 t117 Z8s Z34=>if Z34<(t117.2.1.length:Int)then((elt t117.2.1 Z34).bind fun ZnK=>(Xa.f Z8s ZnK).bind fun t139=>some (.inl (.l1 t117 t139 (IntKind.i64.wrap (Z34+1)))))else(some (.inr (Z8s,0)))
def Yh.f(Z0:Zc)(x_1:Zb)(Vn:Z7)(Uf:List Int):Option ((List Int)×Int):=Zw (Yh.F Z0 x_1 Vn Uf) .start
theorem Yh.ok{Z0 x_1 Vn Uf Z6 Za Z5 UR U4 UU Zeo}(r)(H:Yh.f Z0 x_1 Vn Uf=some r):Ok Tryz.prog 102 [.agg #[Z6,Za,Z5,i6 Z0.Zo],.agg #[UR,U4,i8 x_1.Result,.bool x_1.Reads,i6 x_1.Fuel,i6 x_1.Stack,i6 x_1.Heap,UU],.agg #[i8 Vn.Op,i6 Vn.A,i6 Vn.B],Zeo] [Z9 Z4 Z6 Z0.ZA,Z9 Z4 Za Z0.Pool,Z9 Zd Z5 Z0.Methods,Z9 kb UR x_1.Args,Z9 kb U4 x_1.Zk,Z9 Z8 UU x_1.Code,Z9 kb Zeo Uf] fun v=>HO.ex fun u0:Value=>HO.Yr (v=.tuple #[u0,i6 r.2]) (HO.Yk [HO.ofP (Z9 kb u0 r.1)]):=by
 refine oq 172 Tryz.func102 fun w hV see pb=>?_;obtain⟨m0,o,ho,hr⟩:=rn H;refine bx fun b8=>?_;refine bx fun b10=>?_;refine bx fun b12=>?_;refine ci ho (fun ho=>?_) fun ho=>?_
 ·refine ip 1 ho fun WS ho p14=>?_;refine SP.WG see 0 rfl Tryz.underlying100 rfl Tj.h Z4.Z3q rfl rfl rfl (fun p17=>gg ?_);refine k1 Xa.ok ho fun t19 ho v20=>?_;exact fin ho hr▸rt (fun _ h=>sQ [] (St.Vk h 0 rfl see)) (hk:=fun a b p s=>⟨_,rfl,⟨em,em,Dj.YM _,Sub.em _,Sub.em _,p.get 0 rfl,trivial⟩⟩)
 refine ci ho (fun ho=>?_) fun ho=>?_
 ·refine kv VW.ok ho fun t22 ho=>?_;refine k1 Xa.ok ho fun t23 ho v24=>?_;exact fin ho hr▸rt (fun _ h=>sQ [] (St.Vk h 0 rfl see)) (hk:=fun a b p s=>⟨_,rfl,⟨em,em,Dj.YM _,Sub.em _,Sub.em _,p.get 0 rfl,trivial⟩⟩)
 refine ci ho (fun ho=>?_) fun ho=>?_
 ·refine kv VW.ok ho fun t26 ho=>?_;obtain⟨t27,hc,ho⟩:=bind_some ho;refine SP.Ti see (caps:=[]) _ Zbv.h rfl rfl rfl rfl (fun w2 hP hs sub ap=>Wt.ok _ hc w2 hP sub (aS (ap.get 6 rfl) (All.nil _))) (SP.k1 fun v28=>?_);refine SP.imp (fun w2 h=>St.toP 0 rfl h) ?_;clear hc;refine gg ?_;exact fin ho hr▸rt (sO []) (hk:=fun a b p s=>⟨_,rfl,⟨em,em,Dj.YM _,Sub.em _,Sub.em _,p.get 0 rfl,trivial⟩⟩)
 refine ci ho (fun ho=>?_) fun ho=>?_
 ·refine ip 0 ho fun x32 ho p30=>?_;refine SP.WG see 0 rfl Tryz.underlying100 rfl Tj.h Z4.Z3q rfl rfl rfl (fun p33=>gg ?_);refine k1 Xa.ok ho fun t35 ho v36=>?_;exact fin ho hr▸rt (fun _ h=>sQ [] (St.Vk h 0 rfl see)) (hk:=fun a b p s=>⟨_,rfl,⟨em,em,Dj.YM _,Sub.em _,Sub.em _,p.get 0 rfl,trivial⟩⟩)
 refine ci ho (fun ho=>?_) fun ho=>?_
 ·refine ip 0 ho fun x40 ho p38=>?_;refine SP.WG see 0 rfl Tryz.underlying100 rfl Tj.h Z4.Z3q rfl rfl rfl (fun p41=>gg ?_);obtain⟨t43,hc,ho⟩:=bind_some ho;refine SP.Ti see (caps:=[]) _ Zbv.h rfl rfl rfl rfl (fun w2 hP hs sub ap=>Wt.ok _ hc w2 hP sub (aS (ap.get 8 rfl) (All.nil _))) (SP.k1 fun v44=>?_);refine SP.imp (fun w2 h=>St.toP 0 rfl h) ?_;clear hc;refine gg ?_;exact fin ho hr▸rt (sO []) (hk:=fun a b p s=>⟨_,rfl,⟨em,em,Dj.YM _,Sub.em _,Sub.em _,p.get 0 rfl,trivial⟩⟩)
 refine ci ho (fun ho=>?_) fun ho=>?_
 ·refine ci ho (fun ho=>?_) fun ho=>?_
  ·exact fin ho hr▸rt (fun _ h=>sQ [] (St.know (fun h _=>Z9.nil kb h) h)) (hk:=fun a b p s=>⟨_,rfl,⟨em,em,Dj.YM _,Sub.em _,Sub.em _,p.get 0 rfl,trivial⟩⟩)
  refine ip 6 ho fun T9 ho p47=>?_;refine k1 Xa.ok ho fun t50 ho v51=>?_;exact fin ho hr▸rt (fun _ h=>sQ [] (St.Vk h 0 rfl see)) (hk:=fun a b p s=>⟨_,rfl,⟨em,em,Dj.YM _,Sub.em _,Sub.em _,p.get 0 rfl,trivial⟩⟩)
 refine ci ho (fun ho=>?_) fun ho=>?_
 ·refine ci ho (fun ho=>?_) fun ho=>?_
  ·exact fin ho hr▸rt (fun _ h=>sQ [] (St.know (fun h _=>Z9.nil kb h) h)) (hk:=fun a b p s=>⟨_,rfl,⟨em,em,Dj.YM _,Sub.em _,Sub.em _,p.get 0 rfl,trivial⟩⟩)
  refine dr ?_;refine ge 6 ho fun x58 ho p56 Zfr=>?_;refine gu 0 ?_;refine ge 8 ho fun x62 ho p60 Zfs=>?_;refine gu 0 ?_;refine DA.ph 0 15 ?_;refine DT.tk 0 ?_;refine DT.tk 1 ?_;refine DT.tk 2 ?_;refine DT.tk 4 ?_;refine DT.tk 5 ?_;refine DT.tk 6 ?_;refine DT.tv 7 rfl (Val.ie rfl rfl Zfr) ?_;refine tk 8 ?_;refine DT.tk 10 ?_;refine DT.tk 11 ?_;refine DT.tk 12 ?_;refine DT.tv 13 rfl (Val.ie rfl rfl Zfs) ?_;refine tk 14 ?_;refine DT.one 3 rfl (by kernel_rfl) rfl ?_;obtain⟨hz,ho⟩:=Xn ho;refine SP.Z8c see 10 rfl Tryz.underlying31 Tj.h rfl rfl hz rfl rfl (fun v86=>?_);clear hz;refine gg ?_;refine QE.Vq (fun w2 hw=>(St.V5 [1,2,3,4,5,6,7,8,9,10,11] rfl hw)) ?_;refine DT.one 9 rfl (by kernel_rfl) rfl ?_;refine k1 Xa.ok ho fun t89 ho v90=>?_;refine QE.Vq (fun w2 hw=>(St.V5 [1,2,3,4,5,6,7,8,9,10,11] rfl (sQ [1,2,3] hw))) ?_;refine dn ?_;refine d1 15 ?_;obtain⟨Vv,hc,ho⟩:=bind_some ho;refine SP.Z1M see (caps:=[]) _ Zpp.h rfl rfl rfl rfl (fun w2 hs=>Xa.ok _ hc w2 (hp w2) (Sub.refl _) (aS (Zg.read (St.own 0 rfl see.sub see.dj hs) (Sub.refl _) (Sub.refl _)) (All.nil _))) (fun v a a2 b ⟨v93,e,h⟩=>⟨v93,e,(Sep.Z3U (fun _=>Zg.flip (fun _ _ _ _ h=>h)) (fun _=>Sep.Z5E)) h⟩) (SP.k1 fun v93=>?_);clear hc;refine gg ?_;refine d1 16 ?_;refine d1 17 ?_;refine dz ?_;exact fin ho hr▸rt (fun _ h=>sQ [] (St.Vk h 0 rfl see)) (hk:=fun a b p s=>⟨_,rfl,⟨em,em,Dj.YM _,Sub.em _,Sub.em _,p.get 0 rfl,trivial⟩⟩)
 refine ci ho (fun ho=>?_) fun ho=>?_
 ·refine ip 2 ho fun x97 ho p95=>?_;refine SP.WG see 0 rfl Tryz.underlying34 rfl Jq.h Zd.Z6w rfl rfl rfl (fun p98=>?_);refine SP.Z2k see 0 rfl Tryz.underlying31 rfl rfl rfl (fun Zng=>?_);obtain⟨Jz,hc,ho⟩:=bind_some ho;refine SP.Ti see (caps:=[]) _ ZjU.h rfl rfl rfl rfl (fun w2 hP hs sub ap=>YL.ok _ hc w2 hP sub (aS (ap.get 9 rfl) (aS (ap.get 0 rfl) (All.nil _)))) (SP.k1 fun Z8n=>?_);refine SP.imp (fun w2 h=>St.toP 0 rfl h) ?_;clear hc;refine gg ?_;refine ci ho (fun ho=>?_) fun ho=>?_
  ·exact fin ho hr▸rt (fun _ h=>sQ [] (St.know (fun h _=>Z9.nil kb h) h)) (hk:=fun a b p s=>⟨_,rfl,⟨em,em,Dj.YM _,Sub.em _,Sub.em _,p.get 0 rfl,trivial⟩⟩)
  refine ip 6 ho fun ZnI ho ZCF=>?_;refine SP.WG see 0 rfl Tryz.underlying34 rfl Tj.h Zd.Z7R rfl rfl rfl (fun ZCG=>gg ?_);refine k1 Xa.ok ho fun ZnJ ho Zfw=>?_;exact fin ho hr▸rt (fun _ h=>sQ [] (St.Vk h 0 rfl see)) (hk:=fun a b p s=>⟨_,rfl,⟨em,em,Dj.YM _,Sub.em _,Sub.em _,p.get 0 rfl,trivial⟩⟩)
 refine ci ho (fun ho=>?_) fun ho=>?_
 ·obtain⟨ZiT,hc,ho⟩:=bind_some ho;refine SP.Ti see (caps:=[]) _ Zbv.h rfl rfl rfl rfl (fun w2 hP hs sub ap=>Wt.ok _ hc w2 hP sub (aS (ap.get 6 rfl) (All.nil _))) (SP.k1 fun ZCH=>?_);refine SP.imp (fun w2 h=>St.toP 0 rfl h) ?_;clear hc;refine gg ?_;exact fin ho hr▸rt (sO []) (hk:=fun a b p s=>⟨_,rfl,⟨em,em,Dj.YM _,Sub.em _,Sub.em _,p.get 0 rfl,trivial⟩⟩)
 refine k2 Kr.ok ho fun t117 ho ZCI ZnL=>?_;refine fz 0 ?_;obtain⟨Z6N,hc,ho⟩:=bind_some ho;refine SP.Ti see (caps:=[]) _ ZjU.h rfl rfl rfl rfl (fun w2 hP hs sub ap=>YL.ok _ hc w2 hP sub (aS (ap.get 7 rfl) (aS (ap.get 0 rfl) (All.nil _)))) (SP.k1 fun Zwl=>?_);refine SP.imp (fun w2 h=>St.toP 0 rfl h) ?_;clear hc;refine gg ?_;refine ci ho (fun ho=>?_) fun ho=>?_
 ·exact fin ho hr▸rt (fun _ h=>sQ [] (St.know (fun h _=>Z9.nil kb h) h)) (hk:=fun a b p s=>⟨_,rfl,⟨em,em,Dj.YM _,Sub.em _,Sub.em _,p.get 0 rfl,trivial⟩⟩)
 obtain rfl:=sI ho;refine CP.loop (fun cl1 a w2=>∃Z8s:List Int,∃Z34:Int,∃ZiU:Value,cl1≤m0∧iter (Yh.F Z0 x_1 Vn Uf) cl1 (.l1 t117 Z8s Z34)=some r∧Env ⟨172,[]⟩ [(14,ZnL),(16,ZiU),(18,i6 Z34)] a∧St w em hV [Z9 kb ZiU Z8s] [Zg kb 5 ZnL t117.2.1] w2) m0 (fun a w2 ha hw=>⟨Z6N.1,0,Zwl,Nat.le_refl _,hr,ha.sub sb,(St.V5 [0] rfl (sQ [0] hw))⟩) ?_;clear hr;rintro cl1 a w2 ⟨Z8s,Z34,ZiU,Z9e,hi,ha,hw⟩;obtain⟨Zwm,o,ZwS,ho,hr⟩:=Jc hi;refine CP.app ha hw ?_;clear ha hw a w2 hi;refine gg ?_;refine ci ho (fun ho=>?_) fun ho=>?_
 ·obtain⟨ZnK,Zaj,ho⟩:=Yu ho;refine SP.Wo (fun w2 hw=>Zg.whole (St.own 0 rfl see.sub see.dj hw)) Tryz.underlying31 Tj.h Zaj.1 Zaj.2 rfl rfl rfl rfl (fun ZCJ ZnM=>?_);refine SP.val (Val.Vu (off:=0) (k:=kb) (fun w2 hw=>Zg.whole (St.own 0 rfl see.sub see.dj hw)) Zaj.2 ZnM (fun _ _ e=>by subst e;rfl) Tryz.underlying5 rfl rfl) rfl rfl rfl ?_;refine k1 Xa.ok ho fun t139 ho Zwn=>?_;obtain rfl:=sI ho;exact QE.lower Zwm (by omega) fun a w2 ha hw=>⟨t139,(wr (Z34+1)),Zwn,(by omega),hr,ha.sub sb,(St.V5 [0] rfl (St.Vk hw 0 rfl see))⟩
 exact fin ho hr▸rt (sO []) (hk:=fun a b p s=>⟨_,rfl,⟨em,em,Dj.YM _,Sub.em _,Sub.em _,p.get 0 rfl,trivial⟩⟩)
def Wz.j1(ZC:List Z7)(a1:Int)(Zh WS:Z7)(b19:Bool):Option ((List Int)×Int):=
  if b19=true then(some ([],0))else(if WS.Op=26 then(some ([Zh.A],0))else(if WS.Op=27 then(if Zh.A=(IntKind.i64.wrap (a1+1))then(some ([Zh.A],0))else(some ([IntKind.i64.wrap (a1+1),Zh.A],0)))else(if WS.Op=29 then(some ([IntKind.i64.wrap (Zh.A+1),IntKind.i64.wrap (a1+1)],0))else(some ([IntKind.i64.wrap (a1+1)],0)))))
def Wz.f(ZC:List Z7)(a1:Int):Option ((List Int)×Int):=
  (Zr.f ZC).bind fun t2=>if t2.2≠0 then(some ([],t2.2))else(if((decide (a1<0))||(decide (a1≥(ZC.length:Int))))=true then(some ([],2))else((elt ZC a1).bind fun Zh=>(elt ZC a1).bind fun WS=>if WS.Op=31 then(Wz.j1 ZC a1 Zh WS (decide (WS.Op=31)))else(Wz.j1 ZC a1 Zh WS (decide (WS.Op=32)))))
theorem Wz.ok{ZC a1 Yt}(r)(ho:Wz.f ZC a1=some r):Ok Tryz.prog 103 [Yt,i6 a1] [Z9 Z8 Yt ZC] fun v=>HO.ex fun u0:Value=>HO.Yr (v=.tuple #[u0,i6 r.2]) (HO.Yk [Zg ki 3 u0 r.1]):=by
 refine oq 64 Tryz.func103 fun w hV see pb=>?_;obtain⟨t2,hc,ho⟩:=bind_some ho;refine SP.Ti see (caps:=[]) _ Zf1.h rfl rfl rfl rfl (fun w2 hP hs sub ap=>Zr.ok _ hc w2 hP sub (aS (ap.get 0 rfl) (All.nil _))) (SP.k1 fun v3=>?_);refine SP.imp (fun w2 h=>St.toP 0 rfl h) ?_;clear hc;refine gg ?_;refine ci ho (fun ho=>?_) fun ho=>?_
 ·exact sI ho▸rt (fun _ h=>sQ [0] (nO ki 3 h))
 refine sj 5 [0,1] 24 ho ?_ ?_;rotate_left
 ·refine bb 19 (fun VP=>?_) fun VP=>?_
  ·exact jb (Vi VP)
  exact jb (Vj VP rfl)
 refine gg ?_;refine cb ho (fun ho=>?_) fun ho=>?_
 ·exact sI ho▸rt (fun _ h=>sQ [0] (nO ki 3 h))
 refine ip 1 ho fun Zh ho p9=>?_;refine SP.WG see 0 rfl Tryz.underlying43 rfl V4.h Z8.Je rfl rfl rfl (fun p12=>gg ?_);refine ip 3 ho fun WS ho p14=>?_;refine SP.WG see 0 rfl Tryz.underlying43 rfl Tj.h Z8.KP rfl rfl rfl (fun p17=>?_);refine SP.val (Val.Z1L see 0 rfl (fun _ _ e=>e) Tryz.underlying5 rfl rfl) rfl rfl rfl ?_;refine go ?_;refine oi r (fun z=>∃b19,z (Wz.j1 ZC a1 Zh WS b19) [(1,i6 a1),(8,i6 Zh.A),(34,i8 WS.Op),(35,.bool b19)] []) ?_ ?_ (hb:=pe []);rotate_left
 ·refine gg ?_;refine ci ho (fun ho=>?_) fun ho=>?_
  ·exact mo ho (fun _ z=>⟨(decide (WS.Op=31)),z⟩)
  exact mo ho (fun _ z=>⟨(decide (WS.Op=32)),z⟩)
 rintro _ _ ⟨b19,ho,h⟩;refine en h ?_;refine cb ho (fun ho=>?_) fun ho=>?_
 ·exact sI ho▸rt (fun _ h=>sQ [0] (nO ki 3 h))
 refine ci ho (fun ho=>?_) fun ho=>?_
 ·refine li ki [Zh.A] fun v21=>?_;exact sI ho▸rt (sO [0])
 refine ci ho (fun ho=>?_) fun ho=>?_
 ·refine ci ho (fun ho=>?_) fun ho=>?_
  ·refine li ki [Zh.A] fun v23=>?_;exact sI ho▸rt (sO [0])
  refine li ki [wr (a1+1),Zh.A] fun v25=>?_;exact sI ho▸rt (sO [0])
 refine ci ho (fun ho=>?_) fun ho=>?_
 ·refine li ki [wr (Zh.A+1),wr (a1+1)] fun v27=>?_;exact sI ho▸rt (sO [0])
 refine li ki [wr (a1+1)] fun v29=>?_;exact sI ho▸rt (sO [0])
inductive ZO.S where
  |start
  |l1 (Vh:Int)
def ZO.F(a_0 b_1:List Int):ZO.S→Option (ZO.S⊕Bool)
  | .start=>if(a_0.length:Int)≠(b_1.length:Int)then(some (.inr false))else(some (.inl (.l1 0)))
  | .l1 Vh=>if Vh<(a_0.length:Int)then((elt a_0 Vh).bind fun WS=>(elt b_1 Vh).bind fun x20=>if WS≠x20 then(some (.inr false))else(some (.inl (.l1 (IntKind.i64.wrap (Vh+1))))))else(some (.inr true))
def ZO.f(a_0 b_1:List Int):Option Bool:=Zw (ZO.F a_0 b_1) .start
theorem ZO.ok{a_0 b_1 Z0h Z0i}(r)(H:ZO.f a_0 b_1=some r):Ok Tryz.prog 104 [Z0h,Z0i] [Z9 kb Z0h a_0,Z9 kb Z0i b_1] fun v=>HO.pure (v=.bool r):=by
 refine oq 26 Tryz.func104 fun w hV see pb=>?_;obtain⟨m0,o,ho,hr⟩:=rn H;refine ci ho (fun ho=>?_) fun ho=>?_
 ·exact fin ho hr▸rt
 refine lo ho hr (fun z=>∃Vh,z (.l1 Vh) [(0,Z0h),(1,Z0i),(5,i6 Vh)] []) (fun _ z=>⟨0,z⟩) ?_;rintro _ _ _ ⟨Vh,m13,o,_,_,ho,hr,h⟩;refine en h ?_;refine ci ho (fun ho=>?_) fun ho=>?_;rotate_left
 ·exact fin ho hr▸rt
 refine dr ?_;refine ge 0 ho fun WS ho p14 Z3X=>?_;refine gu 0 ?_;refine ge 3 ho fun x20 ho p18 Z3Y=>?_;refine gu 0 ?_;refine DA.ph 0 8 ?_;refine DT.tk 0 ?_;refine DT.tk 1 ?_;refine DT.tv 2 rfl (Val.ie rfl rfl Z3X) ?_;refine tk 3 ?_;refine DT.tk 4 ?_;refine DT.tk 5 ?_;refine DT.tv 6 rfl (Val.ie rfl rfl Z3Y) ?_;refine tk 7 ?_;refine dn ?_;refine d1 8 ?_;refine dz ?_;refine ci ho (fun ho=>?_) fun ho=>?_
 ·exact fin ho hr▸rt
 exact lw ho hr (fun _ z=>⟨(wr (Vh+1)),z⟩)
inductive ZB.S where
  |start
  |l1 (Zh:Zb) (Z63:Int)
  |l2 (Zh:Zb) (Z37:List ZI) (KJ:Int)
  |l3 (Zh:Zb) (KJ:Int) (Z2I Z64:(List Int)×Int) (Z38:List ZI) (Z65:Int)
def ZB.j1(Z0:Zc)(Xo:Int)(Zh:Zb)(KJ:Int)(Zak:List ZI):Option (ZB.S⊕((List ZI)×Int)):=
  some (.inl (.l2 Zh Zak (IntKind.i64.wrap (KJ+1))))
def ZB.F(Z0:Zc)(Xo:Int):ZB.S→Option (ZB.S⊕((List ZI)×Int))
  | .start=>if((decide (Xo<0))||(decide (Xo≥(Z0.Methods.length:Int))))=true then(some (.inr ([],2)))else((elt Z0.Methods Xo).bind fun Zh=>(Zr.f Zh.Code).bind fun t20=>if t20.2≠0 then(some (.inr ([],t20.2)))else(some (.inl (.l1 Zh 0))))
  | .l1 Zh Z63=>if Z63<(Zh.Code.length:Int)then((elt Zh.Code Z63).bind fun ZnN=>(XB.f Z0 Zh ZnN).bind fun ZnO=>if(!ZnO)=true then(some (.inr ([],100)))else(some (.inl (.l1 Zh (IntKind.i64.wrap (Z63+1))))))else(if(0:Int)≤(Zh.Code.length:Int)∧(32:Int)*(Zh.Code.length:Int)≤281474976710656∧((Zh.Code.length:Int):Int)≤9223372036854775807 then((elt (List.replicate ((Zh.Code.length:Int):Int).toNat ZI.zero:List ZI) 0).bind fun JK=>some (.inl (.l2 Zh ((List.replicate ((Zh.Code.length:Int):Int).toNat ZI.zero:List ZI).set (0:Int).toNat ({ JK with Reached:=true }:ZI)) 0)))else none)
  | .l2 Zh Z37 KJ=>if KJ<(Z37.length:Int)then((elt Z37 KJ).bind fun ZnP=>if(!ZnP.Reached)=true then(ZB.j1 Z0 Xo Zh KJ Z37)else((elt Zh.Code KJ).bind fun ZnQ=>(elt Z37 KJ).bind fun ZnR=>(Yh.f Z0 Zh ZnQ ZnR.Kinds).bind fun Z2I=>if Z2I.2≠0 then(some (.inr ([],Z2I.2)))else((Wz.f Zh.Code KJ).bind fun Z64=>some (.inl (.l3 Zh KJ Z2I Z64 Z37 0)))))else(some (.inr (Z37,0)))
  | .l3 Zh KJ Z2I Z64 Z38 Z65=>if Z65<(Z64.1.length:Int)then((elt Z64.1 Z65).bind fun Z4E=>(elt Z38 Z4E).bind fun ZnS=>(if ZnS.Reached=true then((elt Z38 Z4E).bind fun ZnT=>(ZO.f ZnT.Kinds Z2I.1).bind fun ZfD=>some (!ZfD))else(some false)).bind fun ZnU=>if ZnU=true then(some (.inr ([],100)))else((elt Z38 Z4E).bind fun Zal=>if(([]:List Int).length+Z2I.1.length)*1≤140737488355328 then((elt (Z38.set Z4E.toNat ({ Zal with Reached:=true }:ZI)) Z4E).bind fun x400=>some (.inl (.l3 Zh KJ Z2I Z64 ((Z38.set Z4E.toNat ({ Zal with Reached:=true }:ZI)).set Z4E.toNat ({ x400 with Kinds:=([]:List Int)++Z2I.1 }:ZI)) (IntKind.i64.wrap (Z65+1)))))else none))else(ZB.j1 Z0 Xo Zh KJ Z38)
def ZB.f(Z0:Zc)(Xo:Int):Option ((List ZI)×Int):=Zw (ZB.F Z0 Xo) .start
theorem ZB.ok{Z0 Xo Z6 Za Z5}(r)(H:ZB.f Z0 Xo=some r):Ok Tryz.prog 52 [.agg #[Z6,Za,Z5,i6 Z0.Zo],i6 Xo] [Z9 Z4 Z6 Z0.ZA,Z9 Z4 Za Z0.Pool,Z9 Zd Z5 Z0.Methods] fun v=>HO.ex fun u0:Value=>HO.Yr (v=.tuple #[u0,i6 r.2]) (HO.Yk [Zg Yy 155 u0 r.1]):=by
 refine oq 139 Tryz.func52 fun w hV see pb=>?_;obtain⟨m0,o,ho,hr⟩:=rn H;refine bx fun b4=>?_;refine sj 6 [1,2] 26 ho ?_ ?_;rotate_left
 ·refine bb 20 (fun VP=>?_) fun VP=>?_
  ·exact jb (Vi VP)
  exact jb (Vj VP rfl)
 refine gg ?_;refine cb ho (fun ho=>?_) fun ho=>?_
 ·exact fin ho hr▸rt (fun _ h=>sQ [0] (nO Yy 155 h))
 refine ip 2 ho fun Zh ho p9=>?_;refine Zd.load see 0 rfl Tryz.underlying34 rfl Z3D.h rfl rfl rfl (fun v12 v14 v16=>?_);refine al (h:=fun _=>id) fun b18=>?_;refine sp (h:=id) 0 fun Z5p=>?_;refine sp (h:=id) 1 fun Z9d=>?_;refine sp 2 fun Z6D=>?_;refine st 0 ?_;obtain⟨t20,hc,ho⟩:=bind_some ho;refine SP.Ti see (caps:=[]) _ Zf1.h rfl rfl rfl rfl (fun w2 hP hs sub ap=>Zr.ok _ hc w2 hP sub (aS (ap.get 2 rfl) (All.nil _))) (SP.k1 fun v21=>?_);refine SP.imp (fun w2 h=>St.toP 0 rfl h) ?_;clear hc;refine gg ?_;refine ci ho (fun ho=>?_) fun ho=>?_
 ·exact fin ho hr▸rt (fun _ h=>sQ [0] (nO Yy 155 h))
 refine lo ho hr (fun z=>∃Z63,z (.l1 Zh Z63) [(2,pt b4),(6,pt b18),(9,i6 Z63)] [Zl b18 [v12,v14,i8 Zh.Result,.bool Zh.Reads,i6 Zh.Fuel,i6 Zh.Stack,i6 Zh.Heap,v16] 34,Zl b4 [Z6,Za,Z5,i6 Z0.Zo] 25]) (fun _ z=>⟨0,z⟩) ?_ (hb:=pe [Z9 kb v12 Zh.Args,Z9 kb v14 Zh.Zk,Z9 Z8 v16 Zh.Code,Z9 Z4 Z6 Z0.ZA,Z9 Z4 Za Z0.Pool,Z9 Zd Z5 Z0.Methods]);rintro _ _ _ ⟨Z63,ZCK,o,_,_,ho,hr,h⟩;refine en h ?_;refine ci ho (fun ho=>?_) fun ho=>?_
 ·refine dr ?_;refine ge 2 ho fun ZnN ho ZCL ZnV=>?_;refine gu 0 ?_;refine DA.ph 0 7 ?_;refine tk 0 ?_;refine tk 1 ?_;refine DT.tk 2 ?_;refine DT.tk 3 ?_;refine DT.tk 4 ?_;refine DT.tv 5 rfl (Val.ie rfl rfl ZnV) ?_;refine tk 6 ?_;refine dn ?_;refine d1 7 ?_;refine kv XB.ok ho fun ZnO ho=>?_;refine d1 8 ?_;refine dz ?_;refine cb ho (fun ho=>?_) fun ho=>?_
  ·exact fin ho hr▸rt (fun _ h=>sQ [0] (nO Yy 155 h))
  exact lw ho hr (fun _ z=>⟨(wr (Z63+1)),z⟩)
 obtain⟨hb,ho⟩:=Xn ho;refine SP.ZeT (k:=Yy) (z:=ZI.zero) Tryz.underlying87 Zm5.h rfl rfl (fun _=>⟨_,rfl,Z9.nil _ _⟩) rfl rfl rfl rfl hb (fun Z4F=>?_);clear hb;refine gg ?_;obtain⟨JK,Z7C,ho⟩:=Yu ho;refine SP.Wo (fun w2 hw=>Zg.whole (St.own 0 rfl see.sub see.dj hw)) Tryz.underlying87 Z5L.h Z7C.1 Z7C.2 rfl rfl rfl rfl (fun ZCM ZnW=>?_);refine SP.Z2l ZnW Tryz.underlying155 rfl sz4.h rfl rfl rfl (fun ZCN ZnX=>?_);refine SP.Z2m (z0:=({ JK with Reached:=true }:ZI)) (off:=0) (vs:=[.bool true]) see 0 rfl Z7C.2 ZnX rfl (by rfl) sz4.h rfl (fun a cs ap r=>by obtain⟨v0_,e,p0_⟩:=r;subst e;exact⟨v0_,rfl,p0_⟩) rfl rfl rfl ?_;have ZAJ:=Zgi ({ JK with Reached:=true }:ZI) Z7C.2;refine gg ?_;refine lo ho hr (fun z=>∃Z37 KJ Zd4,z (.l2 Zh Z37 KJ) [(2,pt b4),(6,pt b18),(10,Zd4),(11,i6 KJ)] [Zg Yy 155 Zd4 Z37,Zl b18 [v12,v14,i8 Zh.Result,.bool Zh.Reads,i6 Zh.Fuel,i6 Zh.Stack,i6 Zh.Heap,v16] 34,Zl b4 [Z6,Za,Z5,i6 Z0.Zo] 25]) (fun _ z=>⟨((List.replicate ((Zh.Code.length:Int):Int).toNat ZI.zero:List ZI).set (0:Int).toNat ({ JK with Reached:=true }:ZI)),0,Z4F,z⟩) ?_ (hb:=pe [Z9 kb v12 Zh.Args,Z9 kb v14 Zh.Zk,Z9 Z8 v16 Zh.Code,Z9 Z4 Z6 Z0.ZA,Z9 Z4 Za Z0.Pool,Z9 Zd Z5 Z0.Methods]);rintro _ _ _ ⟨Z37,KJ,Zd4,ZCO,o,_,_,ho,hr,h⟩;refine en h ?_;refine ci (ht:=id) ho (fun ho=>?_) fun ho=>?_;rotate_left
 ·exact fin ho hr▸rt (sO [0])
 refine go ?_;refine ji hr (fun z=>∃Zak ZfE,z (ZB.j1 Z0 Xo Zh KJ Zak) [(2,pt b4),(6,pt b18),(10,ZfE),(11,i6 KJ)] [Zg Yy 155 ZfE Zak,Zl b18 [v12,v14,i8 Zh.Result,.bool Zh.Reads,i6 Zh.Fuel,i6 Zh.Stack,i6 Zh.Heap,v16] 34,Zl b4 [Z6,Za,Z5,i6 Z0.Zo] 25]) ?_ ?_ (hb:=pe [Z9 kb v12 Zh.Args,Z9 kb v14 Zh.Zk,Z9 Z8 v16 Zh.Code,Z9 Z4 Z6 Z0.ZA,Z9 Z4 Za Z0.Pool,Z9 Zd Z5 Z0.Methods])
 ·rintro _ _ ⟨Zak,ZfE,ZCP,o,_,ho,hr,h⟩;refine en h ?_;exact lw ho hr (fun _ z=>⟨Zak,(wr (KJ+1)),ZfE,z⟩)
 refine gg ?_;obtain⟨ZnP,Zam,ho⟩:=Yu ho;refine SP.Wo (fun w2 hw=>Zg.whole (St.own 0 rfl see.sub see.dj hw)) Tryz.underlying87 Z5L.h Zam.1 Zam.2 rfl rfl rfl rfl (fun ZCQ ZnY=>?_);refine SP.Z2l ZnY Tryz.underlying155 rfl sz4.h rfl rfl rfl (fun ZCR ZnZ=>?_);refine SP.val (Val.Vu (off:=0) (k:=Yy) (fun w2 hw=>Zg.whole (St.own 0 rfl see.sub see.dj hw)) Zam.2 ZnZ (fun _ _ ⟨_,e,_⟩=>by subst e;rfl) Tryz.underlying4 rfl rfl) rfl rfl rfl (gg ?_);refine cb ho (fun ho=>?_) fun ho=>?_
 ·exact mi ho hr (fun _ z=>⟨Z37,Zd4,z⟩)
 refine dr ?_;refine ge 2 ho fun ZnQ ho ZCS Zo0=>?_;refine gu 0 ?_;obtain⟨ZnR,Zan,ho⟩:=Yu ho;refine DA.ghost (fun w2 hw=>let ⟨z,hz⟩:=ixC ((fun w2 hw=>Zg.whole (St.own 0 rfl see.sub see.dj hw)) w2 hw) Zan.1 Zan.2;⟨z,hz,hw⟩) (fun ZCT Zh7=>?_);have Zh8:=Zh7.1;obtain⟨ZCU,Zh9⟩:=PtC.more Zh8 1;refine DA.ph 0 12 ?_;refine tk 0 ?_;refine tk 1 ?_;refine DT.tk 2 ?_;refine DT.tk 3 ?_;refine DT.tk 4 ?_;refine DT.tv 5 rfl (Val.ie rfl rfl Zo0) ?_;refine tk 6 ?_;refine DT.tk 7 ?_;refine DT.tk 8 ?_;refine DT.tv 9 rfl (Val.Z7o Zh7 Tryz.underlying87 Z5L.h rfl rfl) ?_;refine DT.tv 10 rfl (Val.ZlJ Zh8 Zh9 Tryz.underlying155 rfl rfl Jq.h rfl) ?_;refine DT.one 11 rfl (by kernel_rfl) rfl ?_;refine SP.Z5m (j:=KJ) see 0 1 rfl Zan.2 Zh9 (fun _ _ ⟨v0_,e,p0_⟩=>⟨v0_,by subst e;rfl,p0_⟩) Tryz.underlying31 rfl rfl rfl (fun ZCV=>gg ?_);refine QE.Vq (fun w2 hw=>(St.V5 [1,2,3,4,5,6,7,8] rfl hw)) ?_;refine dn ?_;refine d1 12 ?_;obtain⟨Z2I,hc,ho⟩:=bind_some ho;refine SP.Ti see (caps:=[]) _ Zpq.h rfl rfl rfl rfl (fun w2 hP hs sub ap=>Yh.ok _ hc w2 hP sub (aS (ap.get 6 rfl) (aS (ap.get 7 rfl) (aS (ap.get 8 rfl) (aS (ap.get 3 rfl) (aS (ap.get 4 rfl) (aS (ap.get 5 rfl) (aS (ap.get 0 rfl) (All.nil _))))))))) (SP.k1 fun Zo1=>?_);refine SP.imp (fun w2 h=>St.toP 0 rfl h) ?_;clear hc;refine gg ?_;refine d1 13 ?_;refine DA.ph 14 17 ?_;refine DT.tk 14 ?_;refine DT.tk 15 ?_;refine DT.tk 16 ?_;refine dn ?_;refine d1 17 ?_;refine dz ?_;refine ci ho (fun ho=>?_) fun ho=>?_
 ·exact fin ho hr▸rt (fun _ h=>sQ [0] (nO Yy 155 h))
 refine k1 Wz.ok ho fun Z64 ho Zo2=>?_;refine lo ho hr (fun z=>∃Z38 Z65 Zd5,z (.l3 Zh KJ Z2I Z64 Z38 Z65) [(2,pt b4),(6,pt b18),(10,Zd5),(11,i6 KJ),(12,Zo1),(14,Zo2),(16,i6 Z65)] [Zg ki 3 Zo2 Z64.1,Zg Yy 155 Zd5 Z38,Zl b18 [v12,v14,i8 Zh.Result,.bool Zh.Reads,i6 Zh.Fuel,i6 Zh.Stack,i6 Zh.Heap,v16] 34,Zl b4 [Z6,Za,Z5,i6 Z0.Zo] 25]) (fun _ z=>⟨Z37,0,Zd4,z⟩) ?_ (hb:=pe [Z9 kb Zo1 Z2I.1,Z9 kb v12 Zh.Args,Z9 kb v14 Zh.Zk,Z9 Z8 v16 Zh.Code,Z9 Z4 Z6 Z0.ZA,Z9 Z4 Za Z0.Pool,Z9 Zd Z5 Z0.Methods]);rintro _ _ _ ⟨Z38,Z65,Zd5,ZCW,o,_,_,ho,hr,h⟩;refine en h ?_;refine ci ho (fun ho=>?_) fun ho=>?_;rotate_left
 ·exact mi ho hr (fun _ z=>⟨Z38,Zd5,z⟩) (sO [1,2,3])
 obtain⟨Z4E,Zao,ho⟩:=Yu ho;refine SP.Wo (fun w2 hw=>Zg.whole (St.own 0 rfl see.sub see.dj hw)) Tryz.underlying48 V4.h Zao.1 Zao.2 rfl rfl rfl rfl (fun ZCX Zo3=>?_);refine SP.val (Val.Vu (off:=0) (k:=ki) (fun w2 hw=>Zg.whole (St.own 0 rfl see.sub see.dj hw)) Zao.2 Zo3 (fun _ _ e=>by subst e;rfl) Tryz.underlying3 rfl rfl) rfl rfl rfl (gg ?_);obtain⟨ZnS,Zap,ho⟩:=Yu ho;refine SP.Wo (fun w2 hw=>Zg.whole (St.own 1 rfl see.sub see.dj hw)) Tryz.underlying87 Z5L.h Zap.1 Zap.2 rfl rfl rfl rfl (fun ZCY Zo4=>?_);refine SP.Z2l Zo4 Tryz.underlying155 rfl sz4.h rfl rfl rfl (fun ZCZ Zo5=>?_);refine SP.val (Val.Vu (off:=0) (k:=Yy) (fun w2 hw=>Zg.whole (St.own 1 rfl see.sub see.dj hw)) Zap.2 Zo5 (fun _ _ ⟨_,e,_⟩=>by subst e;rfl) Tryz.underlying4 rfl rfl) rfl rfl rfl (gg ?_);obtain⟨ZnU,Zep,ho⟩:=bind_some ho;refine sj 9 [2,6,10,11,12,14,16,17] 126 ho ?_ ?_;rotate_left
 ·refine bc 117 Zep (fun ZsL ho=>?_) fun ZsL ho=>?_
  ·obtain⟨ZnT,Zaq,ho⟩:=Yu ho;refine SP.Wo (fun w2 hw=>Zg.whole (St.own 1 rfl see.sub see.dj hw)) Tryz.underlying87 Z5L.h Zaq.1 Zaq.2 rfl rfl rfl rfl (fun ZD0 Zo6=>?_);refine SP.Z2l Zo6 Tryz.underlying155 rfl Jq.h rfl rfl rfl (fun ZD1 Zo7=>?_);refine SP.Z5m (j:=Z4E) see 1 1 rfl Zaq.2 Zo7 (fun _ _ ⟨v0_,e,p0_⟩=>⟨v0_,by subst e;rfl,p0_⟩) Tryz.underlying31 rfl rfl rfl (fun ZD2=>gg ?_);refine kv ZO.ok ho fun ZfD ho=>?_;obtain rfl:=sI ho;exact QE.jn fun w2 hw=>(St.V5 [1,2,3,4,5,6,7] rfl hw)
  obtain rfl:=sI ho;exact jn
 clear Zep;refine gg ?_;refine cb ho (fun ho=>?_) fun ho=>?_
 ·exact fin ho hr▸rt (fun _ h=>sQ [0] (nO Yy 155 h))
 obtain⟨Zal,Z7D,ho⟩:=Yu ho;refine SP.Wo (fun w2 hw=>Zg.whole (St.own 1 rfl see.sub see.dj hw)) Tryz.underlying87 Z5L.h Z7D.1 Z7D.2 rfl rfl rfl rfl (fun Zwj Zd0=>?_);refine SP.Z2l Zd0 Tryz.underlying155 rfl sz4.h rfl rfl rfl (fun ZD3 Zo8=>?_);refine SP.Z2m (z0:=({ Zal with Reached:=true }:ZI)) (off:=0) (vs:=[.bool true]) see 1 rfl Z7D.2 Zo8 rfl (by rfl) sz4.h rfl (fun a cs ap r=>by obtain⟨v0_,e,p0_⟩:=r;subst e;exact⟨v0_,rfl,p0_⟩) rfl rfl rfl ?_;have ZAK:=Zgi ({ Zal with Reached:=true }:ZI) Z7D.2;refine gg ?_;refine SP.ZbW (k:=kb) Tryz.underlying31 Z5M.h rfl rfl (fun ZD4=>gg ?_);refine ap 0 0 ho fun Zo9 ho=>?_;obtain⟨x400,Zar,ho⟩:=Yu ho;refine SP.Wo (fun w2 hw=>Zg.whole (St.own 2 rfl see.sub see.dj hw)) Tryz.underlying87 Z5L.h Zar.1 Zar.2 rfl rfl rfl rfl (fun ZD5 Zoa=>?_);refine SP.Z2l Zoa Tryz.underlying155 rfl Jq.h rfl rfl rfl (fun ZD6 Zob=>?_);refine fz (h:=id) 0 ?_;refine sp 0 fun Zeq=>?_;refine SP.Z2m (z0:=({ x400 with Kinds:=([]:List Int)++Z2I.1 }:ZI)) (off:=1) (vs:=[Zo9]) see 1 rfl Zar.2 Zob (Z4S Zeq) (VD Zeq (rfl)) Jq.h rfl (fun a cs ap r=>by obtain⟨v0_,e,p0_⟩:=r;subst e;exact⟨Zo9,rfl,ap.get 0 rfl⟩) rfl rfl rfl (gg ?_);exact lw ho hr (fun _ z=>⟨((Z38.set Z4E.toNat ({ Zal with Reached:=true }:ZI)).set Z4E.toNat ({ x400 with Kinds:=([]:List Int)++Z2I.1 }:ZI)),(wr (Z65+1)),Zd5,z⟩)
inductive XV.S where
  |start
  |l1 (x20:Int)
def XV.F(x_0:Zb)(VQ:Int):XV.S→Option (XV.S⊕Bool)
  | .start=>some (.inl (.l1 0))
  | .l1 x20=>if x20<(x_0.Code.length:Int)then((elt x_0.Code x20).bind fun x24=>(if x24.Op=30 then((elt x_0.Code x20).bind fun x31=>some (decide (x31.A=VQ)))else(some false)).bind fun t34=>if t34=true then(some (.inr true))else(some (.inl (.l1 (IntKind.i64.wrap (x20+1))))))else(some (.inr false))
def XV.f(x_0:Zb)(VQ:Int):Option Bool:=Zw (XV.F x_0 VQ) .start
theorem XV.ok{x_0 VQ KH Tt KI}(r)(H:XV.f x_0 VQ=some r):Ok Tryz.prog 169 [.agg #[KH,Tt,i8 x_0.Result,.bool x_0.Reads,i6 x_0.Fuel,i6 x_0.Stack,i6 x_0.Heap,KI],i6 VQ] [Z9 kb KH x_0.Args,Z9 kb Tt x_0.Zk,Z9 Z8 KI x_0.Code] fun v=>HO.pure (v=.bool r):=by
 refine oq 30 Tryz.func169 fun w hV see pb=>?_;obtain⟨m0,o,ho,hr⟩:=rn H;refine bx fun b4=>?_;refine lo ho hr (fun z=>∃x20,z (.l1 x20) [(1,i6 VQ),(2,pt b4),(5,i6 x20)] [Zl b4 [KH,Tt,i8 x_0.Result,.bool x_0.Reads,i6 x_0.Fuel,i6 x_0.Stack,i6 x_0.Heap,KI] 34]) (fun _ z=>⟨0,z⟩) ?_;rintro _ _ _ ⟨x20,m21,o,_,_,ho,hr,h⟩;refine en h ?_;refine ci ho (fun ho=>?_) fun ho=>?_;rotate_left
 ·exact fin ho hr▸rt
 refine ip 2 ho fun x24 ho p22=>?_;refine SP.WG see 0 rfl Tryz.underlying43 rfl Tj.h Z8.KP rfl rfl rfl (fun p25=>gg ?_);obtain⟨t34,Z6M,ho⟩:=bind_some ho;refine sj 9 [1,2,5] 29 ho ?_ ?_
 ·clear Z6M;refine gg ?_;refine cb ho (fun ho=>?_) fun ho=>?_
  ·exact fin ho hr▸rt
  exact lw ho hr (fun _ z=>⟨(wr (x20+1)),z⟩)
 refine bi 20 Z6M (fun Zwo ho=>?_) fun Zwo ho=>?_
 ·refine ip 4 ho fun x31 ho p29=>?_;refine SP.WG see 0 rfl Tryz.underlying43 rfl V4.h Z8.Je rfl rfl rfl (fun p32=>gg ?_);obtain rfl:=sI ho;exact QE.jn fun w2 hw=>(St.V5 [2,3,4,5,6] rfl hw)
 obtain rfl:=sI ho;exact jn
inductive ZF.S where
  |start
  |l1 (Zh:Zb) (x76:Int)
  |l2 (Zh:Zb) (Z15:List Int) (Jr:Int)
def ZF.j1(Z0:Zc)(Xo:Int)(Zh:Zb)(x76:Int)(b98:Bool):Option (ZF.S⊕((List Int)×Int)):=
  if b98=true then(some (.inr ([],2)))else(some (.inl (.l1 Zh (IntKind.i64.wrap (x76+1)))))
def ZF.j2(Z0:Zc)(Xo:Int)(Zh:Zb)(Jr:Int)(Zas:List Int):Option (ZF.S⊕((List Int)×Int)):=
  some (.inl (.l2 Zh Zas (IntKind.i64.wrap (Jr+1))))
def ZF.F(Z0:Zc)(Xo:Int):ZF.S→Option (ZF.S⊕((List Int)×Int))
  | .start=>if((decide (Xo<0))||(decide (Xo≥(Z0.Methods.length:Int))))=true then(some (.inr ([],2)))else((elt Z0.Methods Xo).bind fun Zh=>some (.inl (.l1 Zh 0)))
  | .l1 Zh x76=>if x76<(Zh.Code.length:Int)then((elt Zh.Code x76).bind fun x80=>if x80.Op=30 then((elt Zh.Code x76).bind fun x86=>if x86.A<0 then(ZF.j1 Z0 Xo Zh x76 true)else((elt Zh.Code x76).bind fun x93=>ZF.j1 Z0 Xo Zh x76 (decide (x93.A≥(Z0.Methods.length:Int)))))else(ZF.j1 Z0 Xo Zh x76 false))else(some (.inl (.l2 Zh [] 0)))
  | .l2 Zh Z15 Jr=>if Jr<(Z0.Methods.length:Int)then((XV.f Zh Jr).bind fun t119=>if t119=true then(if(Z15.length + [Jr].length)*8≤140737488355328 then(ZF.j2 Z0 Xo Zh Jr (Z15 ++ [Jr]))else none)else(ZF.j2 Z0 Xo Zh Jr Z15))else(some (.inr (Z15,0)))
def ZF.f(Z0:Zc)(Xo:Int):Option ((List Int)×Int):=Zw (ZF.F Z0 Xo) .start
theorem ZF.ok{Z0 Xo Z6 Za Z5}(r)(H:ZF.f Z0 Xo=some r):Ok Tryz.prog 105 [.agg #[Z6,Za,Z5,i6 Z0.Zo],i6 Xo] [Z9 Z4 Z6 Z0.ZA,Z9 Z4 Za Z0.Pool,Z9 Zd Z5 Z0.Methods] fun v=>HO.ex fun u0:Value=>HO.Yr (v=.tuple #[u0,i6 r.2]) (HO.Yk [Zg ki 3 u0 r.1]):=by
 refine oq 74 Tryz.func105 fun w hV see pb=>?_;obtain⟨m0,o,ho,hr⟩:=rn H;refine bx fun b4=>?_;refine sj 6 [1,2] 18 ho ?_ ?_;rotate_left
 ·refine bb 12 (fun VP=>?_) fun VP=>?_
  ·exact jb (Vi VP)
  exact jb (Vj VP rfl)
 refine gg ?_;refine cb ho (fun ho=>?_) fun ho=>?_
 ·exact fin ho hr▸rt (fun _ h=>sQ [0] (nO ki 3 h))
 refine ip 2 ho fun Zh ho p9=>?_;refine Zd.load see 0 rfl Tryz.underlying34 rfl Z3D.h rfl rfl rfl (fun v12 v14 v16=>?_);refine al (h:=fun _=>id) fun b18=>?_;refine sp (h:=id) 0 fun Z5p=>?_;refine sp (h:=id) 1 fun Z9d=>?_;refine sp 2 fun Z6D=>?_;refine st 0 ?_;refine lo ho hr (fun z=>∃x76,z (.l1 Zh x76) [(2,pt b4),(6,pt b18),(7,i6 x76)] [Zl b18 [v12,v14,i8 Zh.Result,.bool Zh.Reads,i6 Zh.Fuel,i6 Zh.Stack,i6 Zh.Heap,v16] 34,Zl b4 [Z6,Za,Z5,i6 Z0.Zo] 25]) (fun _ z=>⟨0,z⟩) ?_ (hb:=pe [Z9 kb v12 Zh.Args,Z9 kb v14 Zh.Zk,Z9 Z8 v16 Zh.Code,Z9 Z4 Z6 Z0.ZA,Z9 Z4 Za Z0.Pool,Z9 Zd Z5 Z0.Methods]);rintro _ _ _ ⟨x76,m77,o,_,_,ho,hr,h⟩;refine en h ?_;refine ci (ht:=id) ho (fun ho=>?_) fun ho=>?_;rotate_left
 ·refine lo ho hr (fun z=>∃Z15 Jr Z6B,z (.l2 Zh Z15 Jr) [(2,pt b4),(6,pt b18),(8,Z6B),(9,i6 Jr)] [Zg ki 3 Z6B Z15,Zl b18 [v12,v14,i8 Zh.Result,.bool Zh.Reads,i6 Zh.Fuel,i6 Zh.Stack,i6 Zh.Heap,v16] 34,Zl b4 [Z6,Za,Z5,i6 Z0.Zo] 25]) (fun _ z=>⟨[],0,nl,z⟩) ?_ (fun _ hw=>(nO ki 3 hw)) (hb:=pe [Z9 kb v12 Zh.Args,Z9 kb v14 Zh.Zk,Z9 Z8 v16 Zh.Code,Z9 Z4 Z6 Z0.ZA,Z9 Z4 Za Z0.Pool,Z9 Zd Z5 Z0.Methods]);rintro _ _ _ ⟨Z15,Jr,Z6B,ZD7,o,_,_,ho,hr,h⟩;refine en h ?_;refine ci (ht:=id) ho (fun ho=>?_) fun ho=>?_;rotate_left
  ·exact fin ho hr▸rt (sO [0])
  refine go ?_;refine ji hr (fun z=>∃Zas Za9,z (ZF.j2 Z0 Xo Zh Jr Zas) [(2,pt b4),(6,pt b18),(8,Za9),(9,i6 Jr)] [Zg ki 3 Za9 Zas,Zl b18 [v12,v14,i8 Zh.Result,.bool Zh.Reads,i6 Zh.Fuel,i6 Zh.Stack,i6 Zh.Heap,v16] 34,Zl b4 [Z6,Za,Z5,i6 Z0.Zo] 25]) ?_ ?_ (hb:=pe [Z9 kb v12 Zh.Args,Z9 kb v14 Zh.Zk,Z9 Z8 v16 Zh.Code,Z9 Z4 Z6 Z0.ZA,Z9 Z4 Za Z0.Pool,Z9 Zd Z5 Z0.Methods])
  ·rintro _ _ ⟨Zas,Za9,Zwp,o,_,ho,hr,h⟩;refine en h ?_;exact lw ho hr (fun _ z=>⟨Zas,(wr (Jr+1)),Za9,z⟩)
  refine gg ?_;refine kv XV.ok ho fun t119 ho=>?_;refine cb ho (fun ho=>?_) fun ho=>?_
  ·refine li (h:=fun _=>id) ki [Jr] fun ZD8=>?_;refine fz 0 ?_;refine ap 0 0 ho fun Zwq ho=>?_;exact mi ho hr (fun _ z=>⟨(Z15 ++ [Jr]),Zwq,z⟩)
  exact mi ho hr (fun _ z=>⟨Z15,Z6B,z⟩)
 refine go ?_;refine CP.seq ?_;refine go ?_;refine ji hr (fun z=>∃b98,z (ZF.j1 Z0 Xo Zh x76 b98) [(2,pt b4),(6,pt b18),(7,i6 x76),(58,.bool b98)] [Zl b18 [v12,v14,i8 Zh.Result,.bool Zh.Reads,i6 Zh.Fuel,i6 Zh.Stack,i6 Zh.Heap,v16] 34,Zl b4 [Z6,Za,Z5,i6 Z0.Zo] 25]) ?_ ?_ (hb:=pe [Z9 kb v12 Zh.Args,Z9 kb v14 Zh.Zk,Z9 Z8 v16 Zh.Code,Z9 Z4 Z6 Z0.ZA,Z9 Z4 Za Z0.Pool,Z9 Zd Z5 Z0.Methods])
 ·rintro _ _ ⟨b98,m99,o,_,ho,hr,h⟩;refine en h ?_;refine cb ho (fun ho=>?_) fun ho=>?_
  ·exact fin ho hr▸rt (fun _ h=>sQ [0] (nO ki 3 h))
  exact lw ho hr (fun _ z=>⟨(wr (x76+1)),z⟩)
 refine dr ?_;refine DA.ph 0 3 ?_;refine DT.tk 0 ?_;refine DT.tk 1 ?_;refine DT.tk 2 ?_;refine dn ?_;refine d1 3 ?_;refine ip 2 ho fun x80 ho p78=>?_;refine d1 4 ?_;refine SP.WG see 0 rfl Tryz.underlying43 rfl Tj.h Z8.KP rfl rfl rfl (fun p81=>gg ?_);refine d1 5 ?_;refine d1 6 ?_;refine d1 7 ?_;rcases TD ho with ⟨hc,ho⟩|⟨hc,ho⟩
 ·have Zwr:=(decide_eq_true hc)
  clear hc;refine DA.ph 8 11 ?_;refine DT.is (d:=38) (b:=true) rfl Zwr ?_;refine DT.tk 8 ?_;refine DT.tk 9 ?_;refine DT.tk 10 ?_;refine dn ?_;refine d1 11 ?_;refine ip 4 ho fun x86 ho p84=>?_;refine d1 12 ?_;refine SP.WG see 0 rfl Tryz.underlying43 rfl V4.h Z8.Je rfl rfl rfl (fun p87=>gg ?_);refine d1 13 ?_;refine d1 14 ?_;refine d1 15 ?_;rcases TD ho with ⟨hc,ho⟩|⟨hc,ho⟩
  ·have Zws:=(decide_eq_true hc)
   clear hc;refine DA.ph 16 25 ?_;refine DT.is (d:=46) (b:=true) rfl Zws ?_;refine DT.tn 16 ?_;refine DT.tn 17 ?_;refine DT.tn 18 ?_;refine DT.tn 19 ?_;refine DT.tn 20 ?_;refine DT.tn 21 ?_;refine DT.tn 22 ?_;refine DT.tn 23 ?_;refine DT.tn 24 ?_;refine dn ?_;refine DA.ph 25 26 ?_;refine DT.tn 25 ?_;refine dn ?_;refine d1 26 ?_;refine d1 27 ?_;refine dz ?_;exact mi ho hr (fun _ z=>⟨true,z⟩)
  have ZiR:=(decide_eq_false hc)
  clear hc;refine ge 6 ho fun x93 ho p91 Z9j=>?_;refine DA.ghost (fun w2 h=>h.Jv see 0 rfl Z8.Je) (fun p94 Zfm=>?_);refine gu 0 ?_;refine DA.ph 16 25 ?_;refine DT.is (d:=46) (b:=false) rfl ZiR ?_;refine DT.tk 16 ?_;refine DT.tk 17 ?_;refine DT.tk 18 ?_;refine DT.tv 19 rfl (Val.ie rfl rfl Z9j) ?_;refine DT.tv 20 rfl (Val.fe rfl Zfm) ?_;refine tk 21 ?_;refine DT.tk 22 ?_;refine DT.tk 23 ?_;refine DT.tk 24 ?_;refine dn ?_;refine d1 25 ?_;refine d1 26 ?_;refine d1 27 ?_;refine dz ?_;exact mi ho hr (fun _ z=>⟨(decide (x93.A≥(Z0.Methods.length:Int))),z⟩)
 have Zwt:=(decide_eq_false hc)
 clear hc;refine DA.ph 8 11 ?_;refine DT.is (d:=38) (b:=false) rfl Zwt ?_;refine DT.tn 8 ?_;refine DT.tn 9 ?_;refine DT.tn 10 ?_;refine dn ?_;refine DA.ph 11 12 ?_;refine DT.tn 11 ?_;refine dn ?_;refine DA.ph 12 13 ?_;refine DT.tn 12 ?_;refine dn ?_;refine DA.ph 13 14 ?_;refine DT.tn 13 ?_;refine dn ?_;refine DA.ph 14 15 ?_;refine DT.tn 14 ?_;refine dn ?_;refine DA.ph 15 16 ?_;refine DT.tn 15 ?_;refine dn ?_;refine DA.ph 16 25 ?_;refine DT.tn 16 ?_;refine DT.tn 17 ?_;refine DT.tn 18 ?_;refine DT.tn 19 ?_;refine DT.tn 20 ?_;refine DT.tn 21 ?_;refine DT.tn 22 ?_;refine DT.tn 23 ?_;refine DT.tn 24 ?_;refine dn ?_;refine DA.ph 25 26 ?_;refine DT.tn 25 ?_;refine dn ?_;refine DA.ph 26 27 ?_;refine DT.tn 26 ?_;refine dn ?_;refine d1 27 ?_;refine dz ?_;exact mi ho hr (fun _ z=>⟨false,z⟩)
inductive XW.S where
  |start
  |l1 (x6:Int)
def XW.F(ZC:List Int)(VQ:Int):XW.S→Option (XW.S⊕Bool)
  | .start=>some (.inl (.l1 0))
  | .l1 x6=>if x6<(ZC.length:Int)then((elt ZC x6).bind fun x10=>if x10=VQ then(some (.inr true))else(some (.inl (.l1 (IntKind.i64.wrap (x6+1))))))else(some (.inr false))
def XW.f(ZC:List Int)(VQ:Int):Option Bool:=Zw (XW.F ZC VQ) .start
theorem XW.ok{ZC VQ Yt}(r)(H:XW.f ZC VQ=some r):Ok Tryz.prog 106 [Yt,i6 VQ] [Z9 ki Yt ZC] fun v=>HO.pure (v=.bool r):=by
 refine oq 18 Tryz.func106 fun w hV see pb=>?_;obtain⟨m0,o,ho,hr⟩:=rn H;refine lo ho hr (fun z=>∃x6,z (.l1 x6) [(0,Yt),(1,i6 VQ),(5,i6 x6)] []) (fun _ z=>⟨0,z⟩) ?_;rintro _ _ _ ⟨x6,m7,o,_,_,ho,hr,h⟩;refine en h ?_;refine ci ho (fun ho=>?_) fun ho=>?_
 ·refine ip 0 ho fun x10 ho p8=>?_;refine ci ho (fun ho=>?_) fun ho=>?_
  ·exact fin ho hr▸rt
  exact lw ho hr (fun _ z=>⟨(wr (x6+1)),z⟩)
 exact fin ho hr▸rt
inductive ZH.S where
  |start
  |l1 (x150:Int)
  |l2 (Tw:List Int)
  |l3 (Tw:List Int) (Z0j KY:Int)
  |l4 (Tw:List Int) (Z0j KY:Int) (Z66:(List Int)×Int) (Z8t:Bool) (Z67:Int)
def ZH.j1(Z0:Zc)(Tw:List Int)(KY Zat:Int):Option (ZH.S⊕((List Int)×Int)):=
  some (.inl (.l3 Tw Zat (IntKind.i64.wrap (KY+1))))
def ZH.F(Z0:Zc):ZH.S→Option (ZH.S⊕((List Int)×Int))
  | .start=>some (.inl (.l1 0))
  | .l1 x150=>if x150<(Z0.Methods.length:Int)then((ZF.f Z0 x150).bind fun t152=>if t152.2≠0 then(some (.inr ([],t152.2)))else(some (.inl (.l1 (IntKind.i64.wrap (x150+1))))))else(some (.inl (.l2 [])))
  | .l2 Tw=>if(Tw.length:Int)<(Z0.Methods.length:Int)then(some (.inl (.l3 Tw (-1) 0)))else(some (.inr (Tw,0)))
  | .l3 Tw Z0j KY=>if((decide (KY<(Z0.Methods.length:Int)))&&(decide (Z0j<0)))=true then((ZF.f Z0 KY).bind fun Z66=>(XW.f Tw KY).bind fun ZfF=>some (.inl (.l4 Tw Z0j KY Z66 (!ZfF) 0)))else(if Z0j<0 then(some (.inr ([],110)))else(if(Tw.length + [Z0j].length)*8≤140737488355328 then(some (.inl (.l2 (Tw ++ [Z0j]))))else none))
  | .l4 Tw Z0j KY Z66 Z8t Z67=>if Z67<(Z66.1.length:Int)then((if Z8t=true then((elt Z66.1 Z67).bind fun ZcV=>(XW.f Tw ZcV).bind fun ZiV=>some ZiV)else(some false)).bind fun ZfG=>some (.inl (.l4 Tw Z0j KY Z66 ZfG (IntKind.i64.wrap (Z67+1)))))else(if Z8t=true then(ZH.j1 Z0 Tw KY KY)else(ZH.j1 Z0 Tw KY Z0j))
def ZH.f(Z0:Zc):Option ((List Int)×Int):=Zw (ZH.F Z0) .start
theorem ZH.ok{Z0 Z6 Za Z5}(r)(H:ZH.f Z0=some r):Ok Tryz.prog 53 [.agg #[Z6,Za,Z5,i6 Z0.Zo]] [Z9 Z4 Z6 Z0.ZA,Z9 Z4 Za Z0.Pool,Z9 Zd Z5 Z0.Methods] fun v=>HO.ex fun u0:Value=>HO.Yr (v=.tuple #[u0,i6 r.2]) (HO.Yk [Zg ki 3 u0 r.1]):=by
 refine oq 81 Tryz.func53 fun w hV see pb=>?_;obtain⟨m0,o,ho,hr⟩:=rn H;refine bx fun b4=>?_;refine lo ho hr (fun z=>∃x150,z (.l1 x150) [(1,pt b4),(4,i6 x150)] [Zl b4 [Z6,Za,Z5,i6 Z0.Zo] 25]) (fun _ z=>⟨0,z⟩) ?_;rintro _ _ _ ⟨x150,Zwg,o,_,_,ho,hr,h⟩;refine en h ?_;refine ci ho (fun ho=>?_) fun ho=>?_
 ·refine k1 ZF.ok ho fun t152 ho ZD9=>?_;refine ci ho (fun ho=>?_) fun ho=>?_
  ·exact fin ho hr▸rt (fun _ h=>sQ [0] (nO ki 3 h))
  exact lw ho hr (fun _ z=>⟨(wr (x150+1)),z⟩) (sO [1])
 refine lo ho hr (fun z=>∃Tw Z4F,z (.l2 Tw) [(1,pt b4),(7,Z4F)] [Zg ki 3 Z4F Tw,Zl b4 [Z6,Za,Z5,i6 Z0.Zo] 25]) (fun _ z=>⟨[],nl,z⟩) ?_ (fun _ hw=>(nO ki 3 hw));rintro _ _ _ ⟨Tw,Z4F,ZDa,o,_,_,ho,hr,h⟩;refine en h ?_;refine ci ho (fun ho=>?_) fun ho=>?_;rotate_left
 ·exact fin ho hr▸rt (sO [0])
 refine lo ho hr (fun z=>∃Z0j KY,z (.l3 Tw Z0j KY) [(1,pt b4),(7,Z4F),(8,i6 Z0j),(9,i6 KY)] [Zg ki 3 Z4F Tw,Zl b4 [Z6,Za,Z5,i6 Z0.Zo] 25]) (fun _ z=>⟨(-1),0,z⟩) ?_;rintro _ _ _ ⟨Z0j,KY,ZDb,o,_,_,ho,hr,h⟩;refine en h ?_;refine sj 3 [1,7,8,9] 44 ho ?_ ?_;rotate_left
 ·refine bb 41 (fun ZfH=>?_) fun ZfH=>?_
  ·exact jb (WH ZfH rfl)
  exact jb (WI ZfH)
 refine gg ?_;refine cb (ht:=id) ho (fun ho=>?_) fun ho=>?_;rotate_left
 ·refine ci ho (fun ho=>?_) fun ho=>?_
  ·exact fin ho hr▸rt (fun _ h=>sQ [0] (nO ki 3 h))
  refine li (h:=fun _=>id) ki [Z0j] fun ZDc=>?_;refine fz 0 ?_;refine ap 0 0 ho fun Zwu ho=>?_;exact lw ho hr (fun _ z=>⟨(Tw ++ [Z0j]),Zwu,z⟩)
 refine go ?_;refine ji hr (fun z=>∃Zat,z (ZH.j1 Z0 Tw KY Zat) [(1,pt b4),(7,Z4F),(8,i6 Zat),(9,i6 KY)] [Zg ki 3 Z4F Tw,Zl b4 [Z6,Za,Z5,i6 Z0.Zo] 25]) ?_ ?_
 ·rintro _ _ ⟨Zat,ZDd,o,_,ho,hr,h⟩;refine en h ?_;exact lw ho hr (fun _ z=>⟨Zat,(wr (KY+1)),z⟩)
 refine gg ?_;refine k1 ZF.ok ho fun Z66 ho Zoc=>?_;obtain⟨ZfF,hc,ho⟩:=bind_some ho;refine SP.Z0m see (caps:=[]) (.bool ZfF) ZjV.h rfl rfl rfl rfl (fun w2 hs=>XW.ok _ hc w2 (hp w2) (Sub.refl _) (aS (Zg.read (St.own 1 rfl see.sub see.dj hs) (Sub.refl _) (Sub.refl _)) (All.nil _))) ?_;clear hc;refine gg ?_;refine lo ho hr (fun z=>∃Z8t Z67,z (.l4 Tw Z0j KY Z66 Z8t Z67) [(1,pt b4),(7,Z4F),(8,i6 Z0j),(9,i6 KY),(10,Zoc),(12,.bool Z8t),(13,i6 Z67)] [Zg ki 3 Zoc Z66.1,Zg ki 3 Z4F Tw,Zl b4 [Z6,Za,Z5,i6 Z0.Zo] 25]) (fun _ z=>⟨(!ZfF),0,z⟩) ?_;rintro _ _ _ ⟨Z8t,Z67,ZDe,o,_,_,ho,hr,h⟩;refine en h ?_;refine ci ho (fun ho=>?_) fun ho=>?_;rotate_left
 ·refine cb ho (fun ho=>?_) fun ho=>?_
  ·exact mi ho hr (fun _ z=>⟨KY,z⟩) (sO [1,2])
  exact mi ho hr (fun _ z=>⟨Z0j,z⟩) (sO [1,2])
 obtain⟨ZfG,Zer,ho⟩:=bind_some ho;refine SP.jn 7 [1,7,8,9,10,13] 71 (.bool ZfG) ?_ ?_
 ·clear Zer;refine gg ?_;exact lw ho hr (fun _ z=>⟨ZfG,(wr (Z67+1)),z⟩)
 refine bc 64 Zer (fun ZsM ho=>?_) fun ZsM ho=>?_
 ·obtain⟨ZcV,Zau,ho⟩:=Yu ho;refine SP.Wo (fun w2 hw=>Zg.whole (St.own 0 rfl see.sub see.dj hw)) Tryz.underlying48 V4.h Zau.1 Zau.2 rfl rfl rfl rfl (fun ZDf Zod=>?_);refine SP.val (Val.Vu (off:=0) (k:=ki) (fun w2 hw=>Zg.whole (St.own 0 rfl see.sub see.dj hw)) Zau.2 Zod (fun _ _ e=>by subst e;rfl) Tryz.underlying3 rfl rfl) rfl rfl rfl ?_;obtain⟨ZiV,hc,ho⟩:=bind_some ho;refine SP.Z0m see (caps:=[]) (.bool ZiV) ZjV.h rfl rfl rfl rfl (fun w2 hs=>XW.ok _ hc w2 (hp w2) (Sub.refl _) (aS (Zg.read (St.own 1 rfl see.sub see.dj hs) (Sub.refl _) (Sub.refl _)) (All.nil _))) ?_;clear hc;refine gg ?_;obtain rfl:=sI ho;exact jn
 obtain rfl:=sI ho;exact jn
inductive Y2.S where
  |start
  |l1 (t2:(List ZE)×Int) (Ky:List Int) (T9:Int)
  |l2 (t2:(List ZE)×Int) (Ky:List Int) (T9 x67 U9:Int)
def Y2.j1(ZC:List Z7)(t2:(List ZE)×Int)(Ky:List Int)(T9 U9 K3:Int):Option (Y2.S⊕((List Int)×Int)):=
  some (.inl (.l2 t2 Ky T9 K3 (IntKind.i64.wrap (U9+1))))
def Y2.F(ZC:List Z7):Y2.S→Option (Y2.S⊕((List Int)×Int))
  | .start=>(Zr.f ZC).bind fun t2=>if t2.2≠0 then(some (.inr ([],t2.2)))else(some (.inl (.l1 t2 [] 0)))
  | .l1 t2 Ky T9=>if T9<(ZC.length:Int)then(some (.inl (.l2 t2 Ky T9 1 0)))else(some (.inr (Ky,0)))
  | .l2 t2 Ky T9 x67 U9=>if U9<(t2.1.length:Int)then((elt t2.1 U9).bind fun x72=>(XF.f x72 T9).bind fun t73=>if t73=true then((elt t2.1 U9).bind fun x76=>Y2.j1 ZC t2 Ky T9 U9 (IntKind.i64.wrap (x67*x76.Turns)))else(Y2.j1 ZC t2 Ky T9 U9 x67))else(if(Ky.length + [x67].length)*8≤140737488355328 then(some (.inl (.l1 t2 (Ky ++ [x67]) (IntKind.i64.wrap (T9+1)))))else none)
def Y2.f(ZC:List Z7):Option ((List Int)×Int):=Zw (Y2.F ZC) .start
theorem Y2.ok{ZC Yt}(r)(H:Y2.f ZC=some r):Ok Tryz.prog 170 [Yt] [Z9 Z8 Yt ZC] fun v=>HO.ex fun u0:Value=>HO.Yr (v=.tuple #[u0,i6 r.2]) (HO.Yk [Zg ki 3 u0 r.1]):=by
 refine oq 48 Tryz.func170 fun w hV see pb=>?_;obtain⟨m0,o,ho,hr⟩:=rn H;obtain⟨t2,hc,ho⟩:=bind_some ho;refine SP.Ti see (caps:=[]) _ Zf1.h rfl rfl rfl rfl (fun w2 hP hs sub ap=>Zr.ok _ hc w2 hP sub (aS (ap.get 0 rfl) (All.nil _))) (SP.k1 fun v3=>?_);refine SP.imp (fun w2 h=>St.toP 0 rfl h) ?_;clear hc;refine gg ?_;refine ci ho (fun ho=>?_) fun ho=>?_
 ·exact fin ho hr▸rt (fun _ h=>sQ [0] (nO ki 3 h))
 refine lo ho hr (fun z=>∃Ky T9 v48,z (.l1 t2 Ky T9) [(0,Yt),(4,v3),(6,v48),(7,i6 T9)] [Zg ki 3 v48 Ky]) (fun _ z=>⟨[],0,nl,z⟩) ?_ (fun _ hw=>(nO ki 3 hw)) (hb:=pe [Z9 Y3 v3 t2.1,Z9 Z8 Yt ZC]);rintro _ _ _ ⟨Ky,T9,v48,m50,o,_,_,ho,hr,h⟩;refine en h ?_;refine ci ho (fun ho=>?_) fun ho=>?_;rotate_left
 ·exact fin ho hr▸rt (sO [0])
 refine lo ho hr (fun z=>∃x67 U9,z (.l2 t2 Ky T9 x67 U9) [(0,Yt),(4,v3),(6,v48),(7,i6 T9),(8,i6 x67),(9,i6 U9)] [Zg ki 3 v48 Ky]) (fun _ z=>⟨1,0,z⟩) ?_ (hb:=pe [Z9 Y3 v3 t2.1,Z9 Z8 Yt ZC]);rintro _ _ _ ⟨x67,U9,m69,o,_,_,ho,hr,h⟩;refine en h ?_;refine ci (ht:=id) ho (fun ho=>?_) fun ho=>?_;rotate_left
 ·refine li (h:=fun _=>id) ki [x67] fun v81=>?_;refine fz 0 ?_;refine ap 0 0 ho fun v83 ho=>?_;exact lw ho hr (fun _ z=>⟨(Ky ++ [x67]),(wr (T9+1)),v83,z⟩)
 refine go ?_;refine ji hr (fun z=>∃K3,z (Y2.j1 ZC t2 Ky T9 U9 K3) [(0,Yt),(4,v3),(6,v48),(7,i6 T9),(8,i6 K3),(9,i6 U9)] [Zg ki 3 v48 Ky]) ?_ ?_ (hb:=pe [Z9 Y3 v3 t2.1,Z9 Z8 Yt ZC])
 ·rintro _ _ ⟨K3,m80,o,_,ho,hr,h⟩;refine en h ?_;exact lw ho hr (fun _ z=>⟨K3,(wr (U9+1)),z⟩)
 refine gg ?_;refine ip 0 ho fun x72 ho p70=>?_;refine ld 0 ?_;refine kv XF.ok ho fun t73 ho=>?_;refine cb ho (fun ho=>?_) fun ho=>?_
 ·refine ip 1 ho fun x76 ho p74=>?_;refine SP.WG see 0 rfl Tryz.underlying218 rfl V4.h Y3.ZeY rfl rfl rfl (fun p77=>gg ?_);exact mi ho hr (fun _ z=>⟨(wr (x67*x76.Turns)),z⟩)
 exact mi ho hr (fun _ z=>⟨x67,z⟩)
inductive YJ.S where
  |start
  |l1 (x19 x20:Int)
def YJ.j1(Ux:List ZI)(x20 x36:Int):Option (YJ.S⊕Int):=
  some (.inl (.l1 x36 (IntKind.i64.wrap (x20+1))))
def YJ.F(Ux:List ZI):YJ.S→Option (YJ.S⊕Int)
  | .start=>some (.inl (.l1 0 0))
  | .l1 x19 x20=>if x20<(Ux.length:Int)then((elt Ux x20).bind fun x24=>if(x24.Kinds.length:Int)>x19 then((elt Ux x20).bind fun x31=>YJ.j1 Ux x20 (x31.Kinds.length:Int))else(YJ.j1 Ux x20 x19))else(some (.inr x19))
def YJ.f(Ux:List ZI):Option Int:=Zw (YJ.F Ux) .start
theorem YJ.ok{Ux Z18}(r)(H:YJ.f Ux=some r):Ok Tryz.prog 171 [Z18] [Z9 Yy Z18 Ux] fun v=>HO.pure (v=i6 r):=by
 refine oq 26 Tryz.func171 fun w hV see pb=>?_;obtain⟨m0,o,ho,hr⟩:=rn H;refine lo ho hr (fun z=>∃x19 x20,z (.l1 x19 x20) [(0,Z18),(3,i6 x19),(4,i6 x20)] []) (fun _ z=>⟨0,0,z⟩) ?_;rintro _ _ _ ⟨x19,x20,m21,o,_,_,ho,hr,h⟩;refine en h ?_;refine ci (ht:=id) ho (fun ho=>?_) fun ho=>?_;rotate_left
 ·exact fin ho hr▸rt
 refine go ?_;refine ji hr (fun z=>∃x36,z (YJ.j1 Ux x20 x36) [(0,Z18),(3,i6 x36),(4,i6 x20)] []) ?_ ?_
 ·rintro _ _ ⟨x36,m37,o,_,ho,hr,h⟩;refine en h ?_;exact lw ho hr (fun _ z=>⟨x36,(wr (x20+1)),z⟩)
 refine gg ?_;refine ip 0 ho fun x24 ho p22=>?_;refine SP.WG see 0 rfl Tryz.underlying155 rfl Jq.h Yy.Z5J rfl rfl rfl (fun p25=>?_);refine SP.Z2k see 0 rfl Tryz.underlying31 rfl rfl rfl (fun v27=>gg ?_);refine ci ho (fun ho=>?_) fun ho=>?_
 ·refine ip 3 ho fun x31 ho p29=>?_;refine SP.WG see 0 rfl Tryz.underlying155 rfl Jq.h Yy.Z5J rfl rfl rfl (fun p32=>?_);refine SP.Z2k see 0 rfl Tryz.underlying31 rfl rfl rfl (fun v34=>gg ?_);exact mi ho hr (fun _ z=>⟨(x31.Kinds.length:Int),z⟩)
 exact mi ho hr (fun _ z=>⟨x19,z⟩)
inductive Yj.S where
  |start
  |l1 (Zh:Zb) (t23:(List Int)×Int) (JL:List ZI) (x150 x151 x152 x153:Int)
def Yj.j1(Z0:Zc)(Xo:Int)(Wh:List ZM)(Zh:Zb)(t23:(List Int)×Int)(JL:List ZI)(x150 Z1I Zav Zaw:Int):Option (Yj.S⊕ZM):=
  some (.inl (.l1 Zh t23 JL (IntKind.i64.wrap (x150+1)) Z1I Zav Zaw))
def Yj.j2(Z0:Zc)(Xo:Int)(Wh:List ZM)(Zh:Zb)(t23:(List Int)×Int)(JL:List ZI)(x150 x151 x152:Int)(x157:Z7)(Z3I x168:Int):Option (Yj.S⊕ZM):=
  if x157.Op≠30 then(Yj.j1 Z0 Xo Wh Zh t23 JL x150 (IntKind.i64.wrap (x151+Z3I)) x152 x168)else((elt Wh x157.A).bind fun Z0f=>(elt t23.1 x150).bind fun Zd6=>(elt t23.1 x150).bind fun Zd7=>(elt JL x150).bind fun Zd8=>(elt Z0.Methods x157.A).bind fun Ka=>(elt JL x150).bind fun Zoe=>if(Zoe.Reached&&(decide ((IntKind.i64.wrap ((IntKind.i64.wrap ((IntKind.i64.wrap ((IntKind.i64.wrap ((Zh.Args.length:Int)+(Zh.Zk.length:Int)))+(Zd8.Kinds.length:Int)))-(Ka.Args.length:Int)))+Z0f.Stack))>x152)))=true then(Yj.j1 Z0 Xo Wh Zh t23 JL x150 (IntKind.i64.wrap ((IntKind.i64.wrap (x151+Z3I))+(IntKind.i64.wrap (Zd6*Z0f.Fuel)))) (IntKind.i64.wrap ((IntKind.i64.wrap ((IntKind.i64.wrap ((IntKind.i64.wrap ((Zh.Args.length:Int)+(Zh.Zk.length:Int)))+(Zd8.Kinds.length:Int)))-(Ka.Args.length:Int)))+Z0f.Stack)) (IntKind.i64.wrap (x168+(IntKind.i64.wrap (Zd7*Z0f.Heap)))))else(Yj.j1 Z0 Xo Wh Zh t23 JL x150 (IntKind.i64.wrap ((IntKind.i64.wrap (x151+Z3I))+(IntKind.i64.wrap (Zd6*Z0f.Fuel)))) x152 (IntKind.i64.wrap (x168+(IntKind.i64.wrap (Zd7*Z0f.Heap))))))
def Yj.F(Z0:Zc)(Xo:Int)(Wh:List ZM):Yj.S→Option (Yj.S⊕ZM)
  | .start=>(elt Z0.Methods Xo).bind fun Zh=>(ZB.f Z0 Xo).bind fun t20=>(Y2.f Zh.Code).bind fun t23=>(YJ.f t20.1).bind fun t26=>some (.inl (.l1 Zh t23 t20.1 0 0 (IntKind.i64.wrap ((IntKind.i64.wrap ((Zh.Args.length:Int)+(Zh.Zk.length:Int)))+t26)) 0))
  | .l1 Zh t23 JL x150 x151 x152 x153=>if x150<(Zh.Code.length:Int)then((elt Zh.Code x150).bind fun x157=>(elt t23.1 x150).bind fun Z3I=>if x157.Op=22 then((elt t23.1 x150).bind fun Za3=>Yj.j2 Z0 Xo Wh Zh t23 JL x150 x151 x152 x157 Z3I (IntKind.i64.wrap (x153+(IntKind.i64.wrap (Za3*x157.A)))))else(Yj.j2 Z0 Xo Wh Zh t23 JL x150 x151 x152 x157 Z3I x153))else(some (.inr (⟨x151,x152,x153⟩:ZM)))
def Yj.f(Z0:Zc)(Xo:Int)(Wh:List ZM):Option ZM:=Zw (Yj.F Z0 Xo Wh) .start
theorem Yj.ok{Z0 Xo Wh Z6 Za Z5 VT}(r)(H:Yj.f Z0 Xo Wh=some r):Ok Tryz.prog 107 [.agg #[Z6,Za,Z5,i6 Z0.Zo],i6 Xo,VT] [Z9 Z4 Z6 Z0.ZA,Z9 Z4 Za Z0.Pool,Z9 Zd Z5 Z0.Methods,Z9 YN VT Wh] fun v=>HO.pure (v=.agg #[i6 r.Fuel,i6 r.Stack,i6 r.Heap]):=by
 refine oq 145 Tryz.func107 fun w hV see pb=>?_;obtain⟨m0,o,ho,hr⟩:=rn H;refine bx fun b5=>?_;refine al fun b7=>?_;refine ip 2 ho fun Zh ho p9=>?_;refine Zd.load see 0 rfl Tryz.underlying34 rfl Z3D.h rfl rfl rfl (fun v12 v14 v16=>?_);refine al (h:=fun _=>id) fun b18=>?_;refine sp (h:=id) 0 fun Z5p=>?_;refine sp (h:=id) 1 fun Z9d=>?_;refine sp 2 fun Z6D=>?_;refine st 0 ?_;refine k1 ZB.ok ho fun t20 ho v21=>?_;refine k1 Y2.ok ho fun t23 ho v24=>?_;obtain⟨t26,hc,ho⟩:=bind_some ho;refine SP.Z0m see (caps:=[]) (i6 t26) Zpr.h rfl rfl rfl rfl (fun w2 hs=>YJ.ok _ hc w2 (hp w2) (Sub.refl _) (aS (Zg.read (St.own 1 rfl see.sub see.dj hs) (Sub.refl _) (Sub.refl _)) (All.nil _))) ?_;clear hc;refine gg ?_;refine bd [i6 0,i6 (wr ((wr ((Zh.Args.length:Int)+(Zh.Zk.length:Int)))+t26)),i6 0] ?_;refine al fun b27=>?_;refine st 0 ?_;refine CP.Vk see 1 rfl ?_;obtain rfl:=sI ho;refine CP.loop (fun cl1 a w2=>∃JL:List ZI,∃x150:Int,∃x151:Int,∃x152:Int,∃x153:Int,∃Z6Q:Value,cl1≤m0∧iter (Yj.F Z0 Xo Wh) cl1 (.l1 Zh t23 JL x150 x151 x152 x153)=some r∧Env ⟨145,[]⟩ [(2,VT),(3,pt b5),(6,pt b7),(7,pt b18),(8,Z6Q),(10,v24),(12,i6 (wr ((Zh.Args.length:Int)+(Zh.Zk.length:Int)))),(13,pt b27),(14,i6 x150)] a∧St w em hV [Z9 Yy Z6Q JL,Z9 ki v24 t23.1,Z9 kb v12 Zh.Args,Z9 kb v14 Zh.Zk,Z9 Z8 v16 Zh.Code,Z9 Z4 Z6 Z0.ZA,Z9 Z4 Za Z0.Pool,Z9 Zd Z5 Z0.Methods,Z9 YN VT Wh] [Zl b27 [i6 x151,i6 x152,i6 x153] 45,Zl b18 [v12,v14,i8 Zh.Result,.bool Zh.Reads,i6 Zh.Fuel,i6 Zh.Stack,i6 Zh.Heap,v16] 34,Zl b7 [i6 0,i6 0,i6 0] 45,Zl b5 [Z6,Za,Z5,i6 Z0.Zo] 25] w2) m0 (fun a w2 ha hw=>⟨t20.1,0,0,(wr ((wr ((Zh.Args.length:Int)+(Zh.Zk.length:Int)))+t26)),0,v21,Nat.le_refl _,hr,ha.sub sb,(St.V5 [0,1,2,3,4,6,7,8,9] rfl (St.Vk hw 1 rfl see))⟩) ?_;clear hr;rintro cl1 a w2 ⟨JL,x150,x151,x152,x153,Z6Q,Z9e,hi,ha,hw⟩;obtain⟨Zwb,o,ZwT,ho,hr⟩:=Jc hi;refine CP.app ha hw ?_;clear ha hw a w2 hi;refine gg ?_;refine ci (ht:=id) ho (fun ho=>?_) fun ho=>?_;rotate_left
 ·refine st 2 ?_;exact fin ho hr▸rt
 refine go ?_;refine ji hr (fun z=>∃Z1I Zav Zaw,z (Yj.j1 Z0 Xo Wh Zh t23 JL x150 Z1I Zav Zaw) [(2,VT),(3,pt b5),(6,pt b7),(7,pt b18),(8,Z6Q),(10,v24),(12,i6 (wr ((Zh.Args.length:Int)+(Zh.Zk.length:Int)))),(13,pt b27),(14,i6 x150)] [Zl b27 [i6 Z1I,i6 Zav,i6 Zaw] 45,Zl b18 [v12,v14,i8 Zh.Result,.bool Zh.Reads,i6 Zh.Fuel,i6 Zh.Stack,i6 Zh.Heap,v16] 34,Zl b7 [i6 0,i6 0,i6 0] 45,Zl b5 [Z6,Za,Z5,i6 Z0.Zo] 25]) ?_ ?_ (hb:=pe [Z9 Yy Z6Q JL,Z9 ki v24 t23.1,Z9 kb v12 Zh.Args,Z9 kb v14 Zh.Zk,Z9 Z8 v16 Zh.Code,Z9 Z4 Z6 Z0.ZA,Z9 Z4 Za Z0.Pool,Z9 Zd Z5 Z0.Methods,Z9 YN VT Wh])
 ·rintro _ _ ⟨Z1I,Zav,Zaw,Zwv,o,_,ho,hr,h⟩;refine en h ?_;obtain rfl:=sI ho;exact QE.lower Zwv (by omega) fun a w2 ha hw=>⟨JL,(wr (x150+1)),Z1I,Zav,Zaw,Z6Q,(by omega),hr,ha.sub sb,hw⟩
 refine gg ?_;refine ip 4 ho fun x157 ho Zwc=>?_;refine ld 0 ?_;refine al fun Zof=>?_;refine st 0 ?_;refine dr ?_;refine ge 2 ho fun Z3I ho ZDg Zog=>?_;refine gu 0 ?_;refine DA.ph 0 6 ?_;refine DT.tk 0 ?_;refine DT.tk 1 ?_;refine DT.tk 2 ?_;refine DT.tk 3 ?_;refine DT.tv 4 rfl (Val.ie rfl rfl Zog) ?_;refine tk 5 ?_;refine dn ?_;refine d1 6 ?_;refine d1 7 ?_;refine d1 8 ?_;refine st 1 ?_;refine dz (h:=id) ?_;refine go ?_;refine ji hr (fun z=>∃x168,z (Yj.j2 Z0 Xo Wh Zh t23 JL x150 x151 x152 x157 Z3I x168) [(2,VT),(3,pt b5),(6,pt b7),(7,pt b18),(8,Z6Q),(10,v24),(12,i6 (wr ((Zh.Args.length:Int)+(Zh.Zk.length:Int)))),(13,pt b27),(14,i6 x150),(15,pt Zof)] [Zl Zof [i8 x157.Op,i6 x157.A,i6 x157.B] 43,Zl b27 [i6 (wr (x151+Z3I)),i6 x152,i6 x168] 45,Zl b18 [v12,v14,i8 Zh.Result,.bool Zh.Reads,i6 Zh.Fuel,i6 Zh.Stack,i6 Zh.Heap,v16] 34,Zl b7 [i6 0,i6 0,i6 0] 45,Zl b5 [Z6,Za,Z5,i6 Z0.Zo] 25]) ?_ ?_ (hb:=pe [Z9 Yy Z6Q JL,Z9 ki v24 t23.1,Z9 kb v12 Zh.Args,Z9 kb v14 Zh.Zk,Z9 Z8 v16 Zh.Code,Z9 Z4 Z6 Z0.ZA,Z9 Z4 Za Z0.Pool,Z9 Zd Z5 Z0.Methods,Z9 YN VT Wh]);rotate_left
 ·refine gg ?_;refine ci ho (fun ho=>?_) fun ho=>?_;rotate_left
  ·exact mi ho hr (fun _ z=>⟨x153,z⟩)
  refine dr ?_;refine ge 4 ho fun Za3 ho Zw1 ZcF=>?_;refine gu 0 ?_;refine DA.ph 0 9 ?_;refine DT.tk 0 ?_;refine DT.tk 1 ?_;refine DT.tk 2 ?_;refine DT.tk 3 ?_;refine DT.tv 4 rfl (Val.ie rfl rfl ZcF) ?_;refine tk 5 ?_;refine DT.tk 6 ?_;refine DT.tk 7 ?_;refine DT.tk 8 ?_;refine dn ?_;refine d1 9 ?_;refine d1 10 ?_;refine d1 11 ?_;refine st 1 ?_;refine dz ?_;exact mi ho hr (fun _ z=>⟨(wr (x153+(wr (Za3*x157.A)))),z⟩)
 rintro _ _ ⟨x168,ZDh,o,_,ho,hr,h⟩;refine en h ?_;refine ci ho (fun ho=>?_) fun ho=>?_
 ·exact mi ho hr (fun _ z=>⟨(wr (x151+Z3I)),x152,x168,z⟩) (sO [1,2,3,4])
 refine ip 8 ho fun Z0f ho ZDi=>?_;refine ld 0 ?_;refine al fun Z8m=>?_;refine st 0 ?_;refine dr ?_;refine ge 2 ho fun Zd6 ho ZDj Zoh=>?_;refine gu 0 ?_;refine DA.ph 0 9 ?_;refine DT.tk 0 ?_;refine DT.tk 1 ?_;refine DT.tk 2 ?_;refine DT.tk 3 ?_;refine DT.tv 4 rfl (Val.ie rfl rfl Zoh) ?_;refine tk 5 ?_;refine DT.tk 6 ?_;refine DT.tk 7 ?_;refine DT.tk 8 ?_;refine dn ?_;refine d1 9 ?_;refine d1 10 ?_;refine d1 11 ?_;refine st 2 ?_;refine dz ?_;refine dr ?_;refine ge 4 ho fun Zd7 ho ZDk Zoi=>?_;refine gu 0 ?_;refine DA.ph 0 9 ?_;refine DT.tk 0 ?_;refine DT.tk 1 ?_;refine DT.tk 2 ?_;refine DT.tk 3 ?_;refine DT.tv 4 rfl (Val.ie rfl rfl Zoi) ?_;refine tk 5 ?_;refine DT.tk 6 ?_;refine DT.tk 7 ?_;refine DT.tk 8 ?_;refine dn ?_;refine d1 9 ?_;refine d1 10 ?_;refine d1 11 ?_;refine st 2 ?_;refine dz ?_;refine dr ?_;refine ge 5 ho fun Zd8 ho ZDl Zoj=>?_;refine DA.ghost (fun w2 h=>h.Jv see 0 rfl Yy.Z5J) (fun ZDm Zok=>?_);refine DA.ghost (fun w2 h=>h.Z1W see 0 rfl (fun(Zax:Value)=>[Zax]) (fun(Zax:Value)=>[Z9 kb Zax Zd8.Kinds]) (fun h cs ⟨Zax,e,p0⟩=>⟨Zax,e,All.cons p0 (All.nil _)⟩)) (fun z_ _=>?_)
 rename Value=>Zax
 refine ge 16 ho fun Ka ho ZDn Zol=>?_;refine DA.ghost (fun w2 h=>h.Jv see 0 rfl Zd.Z6w) (fun ZDo Zom=>?_);refine DA.ghost (fun w2 h=>h.Z1W see 0 rfl (fun(v196:Value)=>[v196]) (fun(v196:Value)=>[Z9 kb v196 Ka.Args]) (fun h cs ⟨v196,e,p0⟩=>⟨v196,e,All.cons p0 (All.nil _)⟩)) (fun z_ _=>?_)
 rename Value=>v196
 refine DA.ph 0 19 ?_;refine DT.tk 0 ?_;refine DT.tk 1 ?_;refine DT.tk 2 ?_;refine DT.tv 3 rfl (Val.ie rfl rfl Zoj) ?_;refine DT.tv 4 rfl (Val.fe rfl Zok) ?_;refine tk 5 ?_;refine DT.tk 6 ?_;refine DT.tk 7 ?_;refine DT.tk 8 ?_;refine DT.tk 9 ?_;refine DT.tk 10 ?_;refine DT.tk 11 ?_;refine DT.tv 12 rfl (Val.ie rfl rfl Zol) ?_;refine DT.tv 13 rfl (Val.fe rfl Zom) ?_;refine tk 14 ?_;refine DT.tk 15 ?_;refine DT.tk 16 ?_;refine DT.tk 17 ?_;refine DT.tk 18 ?_;refine dn ?_;refine d1 19 ?_;refine d1 20 ?_;refine dz ?_;refine ip 13 ho fun Zoe ho ZDp=>?_;refine SP.WG see 0 rfl Tryz.underlying155 rfl sz4.h Yy.Zcb rfl rfl rfl (fun Zwf=>gg ?_);refine sj 5 [2,3,6,7,8,10,12,13,14,17] 141 ho ?_ ?_
 ·refine gg ?_;refine cb ho (fun ho=>?_) fun ho=>?_
  ·refine st 2 ?_;exact mi ho hr (fun _ z=>⟨(wr ((wr (x151+Z3I))+(wr (Zd6*Z0f.Fuel)))),(wr ((wr ((wr ((wr ((Zh.Args.length:Int)+(Zh.Zk.length:Int)))+(Zd8.Kinds.length:Int)))-(Ka.Args.length:Int)))+Z0f.Stack)),(wr (x168+(wr (Zd7*Z0f.Heap)))),z⟩) (sO [2,3,4,5])
  exact mi ho hr (fun _ z=>⟨(wr ((wr (x151+Z3I))+(wr (Zd6*Z0f.Fuel)))),x152,(wr (x168+(wr (Zd7*Z0f.Heap)))),z⟩) (sO [2,3,4,5])
 refine bb 136 (fun ZfI=>?_) fun ZfI=>?_
 ·exact jb (WH ZfI rfl)
 exact jb (WI ZfI)
def TI.f(Tq:ZM)(x_1:Zb):Option Bool:=
  if(((decide (Tq.Fuel<0))||(decide (Tq.Stack<0)))||(decide (Tq.Heap<0)))=true then(some false)else(if(((decide (Tq.Fuel>1048576))||(decide (Tq.Stack>256)))||(decide (Tq.Heap>1024)))=true then(some false)else(some (((decide (Tq.Fuel≤x_1.Fuel))&&(decide (Tq.Stack≤x_1.Stack)))&&(decide (Tq.Heap≤x_1.Heap)))))
theorem TI.ok{Tq x_1 UR U4 UU}(r)(ho:TI.f Tq x_1=some r):Ok Tryz.prog 108 [.agg #[i6 Tq.Fuel,i6 Tq.Stack,i6 Tq.Heap],.agg #[UR,U4,i8 x_1.Result,.bool x_1.Reads,i6 x_1.Fuel,i6 x_1.Stack,i6 x_1.Heap,UU]] [Z9 kb UR x_1.Args,Z9 kb U4 x_1.Zk,Z9 Z8 UU x_1.Code] fun v=>HO.pure (v=.bool r):=by
 refine oq 50 Tryz.func108 fun w hV see pb=>?_;refine bx fun b4=>?_;refine bx fun b6=>?_;refine SP.jn 4 [2,3] 12 (.bool ((decide (Tq.Fuel<0))||(decide (Tq.Stack<0)))) ?_ ?_;rotate_left
 ·refine bb 8 (fun hq9=>?_) fun hq9=>?_
  ·exact jb (Vi hq9)
  exact jb (Vj hq9 rfl)
 refine gg ?_;refine sj 4 [2,3] 17 ho ?_ ?_;rotate_left
 ·refine bb 13 (fun hq11=>?_) fun hq11=>?_
  ·exact jb (Vi hq11)
  exact jb (Vj hq11 rfl)
 refine gg ?_;refine cb ho (fun ho=>?_) fun ho=>?_
 ·exact sI ho▸rt
 refine SP.jn 4 [2,3] 25 (.bool ((decide (Tq.Fuel>1048576))||(decide (Tq.Stack>256)))) ?_ ?_;rotate_left
 ·refine bb 21 (fun Z31=>?_) fun Z31=>?_
  ·exact jb (Vi Z31)
  exact jb (Vj Z31 rfl)
 refine gg ?_;refine sj 4 [2,3] 30 ho ?_ ?_;rotate_left
 ·refine bb 26 (fun ZiW=>?_) fun ZiW=>?_
  ·exact jb (Vi ZiW)
  exact jb (Vj ZiW rfl)
 refine gg ?_;refine cb ho (fun ho=>?_) fun ho=>?_
 ·exact sI ho▸rt
 refine SP.jn 6 [2,3] 42 (.bool ((decide (Tq.Fuel≤x_1.Fuel))&&(decide (Tq.Stack≤x_1.Stack)))) ?_ ?_
 ·refine gg ?_;refine SP.jn 6 [] 49 (.bool (((decide (Tq.Fuel≤x_1.Fuel))&&(decide (Tq.Stack≤x_1.Stack)))&&(decide (Tq.Heap≤x_1.Heap)))) ?_ ?_
  ·refine gg ?_;exact sI ho▸rt
  refine bb 43 (fun Z4B=>?_) fun Z4B=>?_
  ·exact jb (WH Z4B rfl)
  exact jb (WI Z4B)
 refine bb 36 (fun Z24=>?_) fun Z24=>?_
 ·exact jb (WH Z24 rfl)
 exact jb (WI Z24)
end Go.Proofs.YtehjiiebjkkcmaaGreatDoor
end
