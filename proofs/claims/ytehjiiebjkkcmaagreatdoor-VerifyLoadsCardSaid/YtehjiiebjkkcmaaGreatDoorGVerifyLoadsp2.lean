/- Functions of the program as plain functions, with the proof that the code computes them: printed by gen.py of this session. -/
import Derived.Test.YtehjiiebjkkcmaaGreatDoorProg
import Derived.Test.YtehjiiebjkkcmaaGreatDoorW2xVerifyLoads
import Derived.Ground.GgzProg
import Derived.Ground.Names8Prog
import Derived.Ground.NamesProg
import Derived.Ground.SlgcProg
import Derived.Ground.SlgmProg
import Derived.Ground.SlgnProg
import Derived.Ground.SlsfProg
import Derived.Shelf.Bits.Mul64
import Derived.Shelf.Lay
import Derived.Shelf.SlGeneric
import Derived.Shelf.SlIterI.Nil
import Derived.Shelf.SlSortCmp.WholeK
import Derived.Shelf.SlicesE.Reverse
import Derived.Shelf.SlicesG.Cmp
import Derived.Shelf.SlicesG.CompactI
import Derived.Shelf.Small.Bits
import Derived.Shelf.SortM.Plain
import Derived.Shelf.SortM.SortNone
import Derived.Shelf.Spec.SlicesGrow
import Derived.Test.YtehjiiebjkkcmaaGreatDoorGVerifyLoadsp1
set_option linter.unusedVariables false
set_option linter.unusedSimpArgs false
set_option maxRecDepth 20000
set_option maxHeartbeats 2000000
set_option linter.defProp false
set_option warn.classDefReducibility false
noncomputable section
namespace Go.Proofs.YtehjiiebjkkcmaaGreatDoor
open Go.Q
attribute [local irreducible] CP SP QE DA DT Val St
inductive Yd.S where
  |start
  |l1 (x31:Int)
def Yd.F(s_0:List Z7)(Vy Vz:List Zp)(Tn:List Zb)(Tp:Int)(Z2C Z0X:List Int)(Z0Y:Int)(Z0Z:Bool)(Z10 Z11 Z12:Int)(Z13:List Z7)(Z14:List Int):Yd.S→Option (Yd.S⊕Int)
  | .start=>some (.inl (.l1 0))
  | .l1 x31=>if x31<(s_0.length:Int)then((elt s_0 x31).bind fun x35=>(Ji.f x35 Vy Vz Tn Tp Z2C Z0X Z0Y Z0Z Z10 Z11 Z12 Z13 Z14).bind fun t36=>if t36=true then(some (.inr x31))else(some (.inl (.l1 (IntKind.i64.wrap (x31+1))))))else(some (.inr (-1)))
def Yd.f(s_0:List Z7)(Vy Vz:List Zp)(Tn:List Zb)(Tp:Int)(Z2C Z0X:List Int)(Z0Y:Int)(Z0Z:Bool)(Z10 Z11 Z12:Int)(Z13:List Z7)(Z14:List Int):Option Int:=Zw (Yd.F s_0 Vy Vz Tn Tp Z2C Z0X Z0Y Z0Z Z10 Z11 Z12 Z13 Z14) .start
theorem Yd.ok{s_0 Vy Vz Tn Tp Z2C Z0X Z0Y Z0Z Z10 Z11 Z12 Z13 Z14 X4 JD JE JF Z5o Z4r Z4s Z4t b22 b24}(r)(H:Yd.f s_0 Vy Vz Tn Tp Z2C Z0X Z0Y Z0Z Z10 Z11 Z12 Z13 Z14=some r):Ok Tryz.prog 128 [X4,.func (.func 77) #[] #[pt b24]] [Z9 Z8 X4 s_0,Z9 Z4 JD Vy,Z9 Z4 JE Vz,Z9 Zd JF Tn,Z9 kb Z5o Z2C,Z9 kb Z4r Z0X,Z9 Z8 Z4s Z13,Z9 kb Z4t Z14,Z6u b22 [JD,JE,JF,i6 Tp,Z5o,Z4r,i8 Z0Y,.bool Z0Z,i6 Z10,i6 Z11,i6 Z12,Z4s,Z4t] 122,Ku b24 [pt b22] 116] fun v=>HO.pure (v=i6 r):=by
 refine oq 19 Tryz.func128 fun w hV see pb=>?_;obtain⟨m0,o,ho,hr⟩:=rn H;refine lo ho hr (fun z=>∃x31,z (.l1 x31) [(0,X4),(1,.func (.func 77) #[] #[pt b24]),(7,i6 (s_0.length:Int)),(8,i6 x31)] []) (fun _ z=>⟨0,z⟩) ?_;rintro _ _ _ ⟨x31,m32,o,_,_,ho,hr,h⟩;refine en h ?_;refine ci ho (fun ho=>?_) fun ho=>?_
 ·refine ip 0 ho fun x35 ho p33=>?_;refine ld 0 ?_;refine kv Ji.ok ho fun t36 ho=>?_;refine cb ho (fun ho=>?_) fun ho=>?_
  ·exact fin ho hr▸rt
  exact lw ho hr (fun _ z=>⟨(wr (x31+1)),z⟩)
 exact fin ho hr▸rt
def YT.f(s_0:List Z7)(Vy Vz:List Zp)(Tn:List Zb)(Tp:Int)(Z2C Z0X:List Int)(Z0Y:Int)(Z0Z:Bool)(Z10 Z11 Z12:Int)(Z13:List Z7)(Z14:List Int):Option Bool:=
  (Yd.f s_0 Vy Vz Tn Tp Z2C Z0X Z0Y Z0Z Z10 Z11 Z12 Z13 Z14).bind fun t26=>some (decide (t26≥0))
theorem YT.ok{s_0 Vy Vz Tn Tp Z2C Z0X Z0Y Z0Z Z10 Z11 Z12 Z13 Z14 X4 JD JE JF Z5o Z4r Z4s Z4t b22 b24}(r)(ho:YT.f s_0 Vy Vz Tn Tp Z2C Z0X Z0Y Z0Z Z10 Z11 Z12 Z13 Z14=some r):Ok Tryz.prog 66 [X4,.func (.func 77) #[] #[pt b24]] [Z9 Z8 X4 s_0,Z9 Z4 JD Vy,Z9 Z4 JE Vz,Z9 Zd JF Tn,Z9 kb Z5o Z2C,Z9 kb Z4r Z0X,Z9 Z8 Z4s Z13,Z9 kb Z4t Z14,Z6u b22 [JD,JE,JF,i6 Tp,Z5o,Z4r,i8 Z0Y,.bool Z0Z,i6 Z10,i6 Z11,i6 Z12,Z4s,Z4t] 122,Ku b24 [pt b22] 116] fun v=>HO.pure (v=.bool r):=by
 refine oq 9 Tryz.func66 fun w hV see pb=>?_;refine kv Yd.ok ho fun t26 ho=>?_;exact sI ho▸rt
def ZV.f(Vb U5:List Int)(VI:Int):Option ((List Int)×(List Int)):=
  if(Vb.length + [VI].length)*1≤140737488355328 then(some (Vb ++ [VI],U5))else none
theorem ZV.ok(Vb U5:List Int)(VI:Int)(J8 WJ:Value)(r:(List Int)×(List Int))(H:ZV.f Vb U5 VI=some r)(w:World)(hV:Hp)(sV:Sub hV (hp w))(h0 h1:Z57.p hV)(b1:Nat)(hA:Hp)(sA:Sub hA (hp w))(dA:Dj hV hA)(hI:(HO.Yk [Zl b1 [J8,WJ] 255,Zg kb 5 J8 Vb,Zg kb 5 WJ U5]).p hV hA) :
    XL Tryz.prog 253 [pt b1,i8 VI].toArray hA hV w (fun v=>HO.Yr (v=.tuple #[]) (HO.Yk [HO.ex fun v12:Value=>HO.ex fun v13:Value=>HO.Yk [Zl b1 [v12,v13] 255,Zg kb 5 v12 r.1,Zg kb 5 v13 r.2]])):=by
 have see:YG w hA hV:=⟨sV,dA⟩
 refine XL.of (P:=Tryz.prog) (n:=⟨14,[]⟩) Tryz.func253 rfl ⟨rfl,rfl⟩ rfl (St.K6 (os:=[Zl b1 [J8,WJ] 255,Zg kb 5 J8 Vb,Zg kb 5 WJ U5]) sA (All.cons (x:=Z57) h0 (All.cons (x:=Z57) h1 (All.nil _))) hI) ?_;have ho:=H;refine gg ?_;refine li (h:=fun _=>id) kb [VI] fun v8=>?_;refine fz 0 ?_;refine ap 1 0 ho fun v10 ho=>?_;refine sh 1 fun Z95=>?_;refine st 0 ?_;obtain rfl:=sI ho;exact QE.over (rs:=[]) (vs:=[]) Tryz.results253 rfl trivial (fun w2 h=>St.done (fun a b p s=>⟨rfl,s⟩) (St.shut v10 (St.shut WJ (St.group [Zl b1 [v10,WJ] 255,Zg kb 5 v10 (Vb ++ [VI]),Zg kb 5 WJ U5] (sQ [0,1,2] h)))))
def Xv.f(Vb U5:List Int)(VI:Int):Option ((List Int)×(List Int)):=
  if(U5.length + [VI].length)*1≤140737488355328 then(some (Vb,U5 ++ [VI]))else none
theorem Xv.ok(Vb U5:List Int)(VI:Int)(J8 WJ:Value)(r:(List Int)×(List Int))(H:Xv.f Vb U5 VI=some r)(w:World)(hV:Hp)(sV:Sub hV (hp w))(h0 h1:Z57.p hV)(b1:Nat)(hA:Hp)(sA:Sub hA (hp w))(dA:Dj hV hA)(hI:(HO.Yk [Zl b1 [J8,WJ] 255,Zg kb 5 J8 Vb,Zg kb 5 WJ U5]).p hV hA) :
    XL Tryz.prog 254 [pt b1,i8 VI].toArray hA hV w (fun v=>HO.Yr (v=.tuple #[]) (HO.Yk [HO.ex fun v12:Value=>HO.ex fun v13:Value=>HO.Yk [Zl b1 [v12,v13] 255,Zg kb 5 v12 r.1,Zg kb 5 v13 r.2]])):=by
 have see:YG w hA hV:=⟨sV,dA⟩
 refine XL.of (P:=Tryz.prog) (n:=⟨14,[]⟩) Tryz.func254 rfl ⟨rfl,rfl⟩ rfl (St.K6 (os:=[Zl b1 [J8,WJ] 255,Zg kb 5 J8 Vb,Zg kb 5 WJ U5]) sA (All.cons (x:=Z57) h0 (All.cons (x:=Z57) h1 (All.nil _))) hI) ?_;have ho:=H;refine gg ?_;refine li (h:=fun _=>id) kb [VI] fun v8=>?_;refine fz 0 ?_;refine ap 2 0 ho fun v10 ho=>?_;refine sh 2 fun Z95=>?_;refine st 0 ?_;obtain rfl:=sI ho;exact QE.over (rs:=[]) (vs:=[]) Tryz.results254 rfl trivial (fun w2 h=>St.done (fun a b p s=>⟨rfl,s⟩) (St.shut J8 (St.shut v10 (St.group [Zl b1 [J8,v10] 255,Zg kb 5 J8 Vb,Zg kb 5 v10 (U5 ++ [VI])] (sQ [0,1,2] h)))))
def Wd.j1(Zn:Int)(Zcq Z15:List Int):Option (WY×Bool):=
  some ((⟨Zcq,Z15⟩:WY),true)
def Wd.j2(Zn:Int)(l98 Z9S:List Int):Option (WY×Bool):=
  (ZV.f l98 Z9S 2).bind fun Z6A=>(Xv.f Z6A.1 Z6A.2 2).bind fun Zcr=>Wd.j1 Zn Zcr.1 Zcr.2
def Wd.j3(Zn:Int)(l87 l90:List Int):Option (WY×Bool):=
  (ZV.f l87 l90 1).bind fun Vv=>Wd.j1 Zn Vv.1 Vv.2
def Wd.j7(Zn:Int)(b51:Bool):Option (WY×Bool):=
  if b51=true then((ZV.f ([]:List Int) ([]:List Int) 2).bind fun t52=>Wd.j2 Zn t52.1 t52.2)else(if Zn=21 then(Wd.j2 Zn [] [])else(if Zn=22 then((ZV.f ([]:List Int) ([]:List Int) 1).bind fun t57=>(Xv.f t57.1 t57.2 3).bind fun t62=>Wd.j1 Zn t62.1 t62.2)else(if Zn=23 then((ZV.f ([]:List Int) ([]:List Int) 3).bind fun t65=>(ZV.f t65.1 t65.2 1).bind fun t70=>(Xv.f t70.1 t70.2 1).bind fun t73=>Wd.j1 Zn t73.1 t73.2)else(if Zn=25 then((ZV.f ([]:List Int) ([]:List Int) 3).bind fun t76=>(Xv.f t76.1 t76.2 1).bind fun t81=>Wd.j1 Zn t81.1 t81.2)else(some ((⟨[],[]⟩:WY),false))))))
def Wd.j6(Zn:Int)(b42:Bool):Option (WY×Bool):=
  if b42=true then((Xv.f ([]:List Int) ([]:List Int) 1).bind fun t43=>(ZV.f t43.1 t43.2 2).bind fun t48=>Wd.j1 Zn t48.1 t48.2)else(if Zn=19 then(Wd.j7 Zn (decide (Zn=19)))else(Wd.j7 Zn (decide (Zn=20))))
def Wd.j5(Zn:Int)(b19:Bool):Option (WY×Bool):=
  if b19=true then((Xv.f ([]:List Int) ([]:List Int) 1).bind fun t20=>(ZV.f t20.1 t20.2 1).bind fun t25=>(ZV.f t25.1 t25.2 1).bind fun t28=>Wd.j1 Zn t28.1 t28.2)else(if Zn=16 then((Xv.f ([]:List Int) ([]:List Int) 2).bind fun t31=>(ZV.f t31.1 t31.2 1).bind fun t36=>(ZV.f t36.1 t36.2 1).bind fun t39=>Wd.j1 Zn t39.1 t39.2)else(if Zn=17 then(Wd.j6 Zn (decide (Zn=17)))else(Wd.j6 Zn (decide (Zn=18)))))
def Wd.j4(Zn:Int)(b5:Bool):Option (WY×Bool):=
  if b5=true then(Wd.j1 Zn [] [])else(if Zn=6 then((ZV.f ([]:List Int) ([]:List Int) 0).bind fun t6=>Wd.j1 Zn t6.1 t6.2)else(if Zn=24 then((ZV.f ([]:List Int) ([]:List Int) 3).bind fun t11=>(ZV.f t11.1 t11.2 1).bind fun t16=>Wd.j3 Zn t16.1 t16.2)else(if Zn=27 then(Wd.j3 Zn [] [])else(if Zn=9 then(Wd.j5 Zn (decide (Zn=9)))else(if Zn=10 then(Wd.j5 Zn (decide (Zn=10)))else(if Zn=11 then(Wd.j5 Zn (decide (Zn=11)))else(if Zn=12 then(Wd.j5 Zn (decide (Zn=12)))else(if Zn=13 then(Wd.j5 Zn (decide (Zn=13)))else(if Zn=14 then(Wd.j5 Zn (decide (Zn=14)))else(Wd.j5 Zn (decide (Zn=15))))))))))))
def Wd.f(Zn:Int):Option (WY×Bool):=
  if Zn=0 then(Wd.j4 Zn (decide (Zn=0)))else(if Zn=26 then(Wd.j4 Zn (decide (Zn=26)))else(if Zn=28 then(Wd.j4 Zn (decide (Zn=28)))else(if Zn=29 then(Wd.j4 Zn (decide (Zn=29)))else(Wd.j4 Zn (decide (Zn=32))))))
theorem Wd.ok{Zn}(r)(ho:Wd.f Zn=some r):Ok Tryz.prog 239 [i8 Zn] [] fun v=>HO.ex fun u0:Value=>HO.ex fun u1:Value=>HO.Yr (v=.tuple #[.agg #[u0,u1],.bool r.2]) (HO.Yk [Zg kb 5 u0 r.1.Takes,Zg kb 5 u1 r.1.Gives]):=by
 refine oq 66 Tryz.func239 fun w hV see pb=>?_;refine al fun b1=>?_;refine al (h:=fun _=>id) fun b3=>?_;refine go ?_;refine oi r (fun z=>∃Zcq Z15 ZiE Z6B,z (Wd.j1 Zn Zcq Z15) [(2,pt b1),(4,pt b3)] [Zg kb 5 Z6B Z15,Zg kb 5 ZiE Zcq,Zl b3 [ZiE,Z6B] 255,Zl b1 [nl,nl] 255]) ?_ ?_
 ·rintro _ _ ⟨Zcq,Z15,ZiE,Z6B,ho,h⟩;refine en h ?_;refine sh (h:=id) 1 fun ZwI=>?_;refine sh 0 fun ZwJ=>?_;refine st 3 ?_;exact sI ho▸rt (sO [1,0])
 refine go ?_;refine CP.seq ?_;refine go ?_;refine CP.seq ?_;refine go ?_;refine CP.seq ?_;refine go ?_;refine CP.seq ?_;refine go ?_;refine oi r (fun z=>∃l98 Z9S v99 Z2D,z (Wd.j2 Zn l98 Z9S) [(2,pt b1),(4,pt b3)] [Zg kb 5 Z2D Z9S,Zg kb 5 v99 l98,Zl b3 [v99,Z2D] 255,Zl b1 [nl,nl] 255]) ?_ ?_
 ·rintro _ _ ⟨l98,Z9S,v99,Z2D,ho,h⟩;refine en h ?_;refine so (h:=id) [2,1,0,3] ?_;refine sg [Zl b3 [v99,Z2D] 255,Zg kb 5 v99 l98,Zg kb 5 Z2D Z9S] ?_;obtain⟨Z6A,hc,ho⟩:=bind_some ho;refine SP.Wy see (caps:=[]) _ Z08.h rfl rfl rfl rfl (fun w2 hP h1 sub s1 d1 ap hI=>ZV.ok _ _ _ v99 Z2D _ hc w2 hP sub trivial trivial _ h1 s1 d1 hI) (SP.k0 ?_);refine ex fun Zcs=>?_;refine ex fun v105=>?_;refine ss ?_;clear hc;refine gg ?_;refine sg [Zl b3 [Zcs,v105] 255,Zg kb 5 Zcs Z6A.1,Zg kb 5 v105 Z6A.2] ?_;obtain⟨Zcr,hc,ho⟩:=bind_some ho;refine SP.Wy see (caps:=[]) _ Z5N.h rfl rfl rfl rfl (fun w2 hP h1 sub s1 d1 ap hI=>Xv.ok _ _ _ Zcs v105 _ hc w2 hP sub trivial trivial _ h1 s1 d1 hI) (SP.k0 ?_);refine ex fun v107=>?_;refine ex fun Zfh=>?_;refine ss ?_;clear hc;refine gg ?_;exact mo ho (fun _ z=>⟨Zcr.1,Zcr.2,v107,Zfh,z⟩) (sO [2,1,0,3])
 refine go ?_;refine CP.seq ?_;refine go ?_;refine CP.seq ?_;refine go ?_;refine CP.seq ?_;refine go ?_;refine CP.seq ?_;refine go ?_;refine oi r (fun z=>∃l87 l90 v88 v91,z (Wd.j3 Zn l87 l90) [(2,pt b1),(4,pt b3)] [Zg kb 5 v91 l90,Zg kb 5 v88 l87,Zl b3 [v88,v91] 255,Zl b1 [nl,nl] 255]) ?_ ?_
 ·rintro _ _ ⟨l87,l90,v88,v91,ho,h⟩;refine en h ?_;refine so (h:=id) [2,1,0,3] ?_;refine sg [Zl b3 [v88,v91] 255,Zg kb 5 v88 l87,Zg kb 5 v91 l90] ?_;obtain⟨Vv,hc,ho⟩:=bind_some ho;refine SP.Wy see (caps:=[]) _ Z08.h rfl rfl rfl rfl (fun w2 hP h1 sub s1 d1 ap hI=>ZV.ok _ _ _ v88 v91 _ hc w2 hP sub trivial trivial _ h1 s1 d1 hI) (SP.k0 ?_);refine ex fun v93=>?_;refine ex fun v94=>?_;refine ss ?_;clear hc;refine gg ?_;exact mo ho (fun _ z=>⟨Vv.1,Vv.2,v93,v94,z⟩) (sO [2,1,0,3])
 refine go ?_;refine CP.seq ?_;refine go ?_;refine CP.seq ?_;refine go ?_;refine CP.seq ?_;refine go ?_;refine CP.seq ?_;refine CP.seq ?_;refine oi r (fun z=>∃b5,z (Wd.j4 Zn b5) [(2,pt b1),(4,pt b3),(5,i8 Zn),(6,.bool b5)] [Zl b3 [nl,nl] 255,Zl b1 [nl,nl] 255]) ?_ ?_;rotate_left
 ·refine gg ?_;refine ci ho (fun ho=>?_) fun ho=>?_
  ·exact mo ho (fun _ z=>⟨(decide (Zn=0)),z⟩)
  refine ci ho (fun ho=>?_) fun ho=>?_
  ·exact mo ho (fun _ z=>⟨(decide (Zn=26)),z⟩)
  refine ci ho (fun ho=>?_) fun ho=>?_
  ·exact mo ho (fun _ z=>⟨(decide (Zn=28)),z⟩)
  refine ci ho (fun ho=>?_) fun ho=>?_
  ·exact mo ho (fun _ z=>⟨(decide (Zn=29)),z⟩)
  exact mo ho (fun _ z=>⟨(decide (Zn=32)),z⟩)
 rintro _ _ ⟨b5,ho,h⟩;refine en h ?_;refine cb ho (fun ho=>?_) fun ho=>?_
 ·exact mo ho (fun _ z=>⟨[],[],nl,nl,z⟩) (fun _ hw=>(nO kb 5 (nO kb 5 hw)))
 refine ci ho (fun ho=>?_) fun ho=>?_
 ·refine sn kb 5 ?_;refine sn kb 5 ?_;refine so (h:=id) [2,1,0,3] ?_;refine sg [Zl b3 [nl,nl] 255,Zg kb 5 nl ([]:List Int),Zg kb 5 nl ([]:List Int)] ?_;obtain⟨t6,hc,ho⟩:=bind_some (x:=ZV.f ([]:List Int) ([]:List Int) 0) ho;refine SP.Wy see (caps:=[]) _ Z08.h rfl rfl rfl rfl (fun w2 hP h1 sub s1 d1 ap hI=>ZV.ok _ _ _ nl nl _ hc w2 hP sub trivial trivial _ h1 s1 d1 hI) (SP.k0 ?_);refine ex fun v9=>?_;refine ex fun v10=>?_;refine ss ?_;clear hc;refine gg ?_;exact mo ho (fun _ z=>⟨t6.1,t6.2,v9,v10,z⟩) (sO [2,1,0,3])
 refine ci ho (fun ho=>?_) fun ho=>?_
 ·refine sn kb 5 ?_;refine sn kb 5 ?_;refine so (h:=id) [2,1,0,3] ?_;refine sg [Zl b3 [nl,nl] 255,Zg kb 5 nl ([]:List Int),Zg kb 5 nl ([]:List Int)] ?_;obtain⟨t11,hc,ho⟩:=bind_some (x:=ZV.f ([]:List Int) ([]:List Int) 3) ho;refine SP.Wy see (caps:=[]) _ Z08.h rfl rfl rfl rfl (fun w2 hP h1 sub s1 d1 ap hI=>ZV.ok _ _ _ nl nl _ hc w2 hP sub trivial trivial _ h1 s1 d1 hI) (SP.k0 ?_);refine ex fun v14=>?_;refine ex fun v15=>?_;refine ss ?_;clear hc;refine gg ?_;refine sg [Zl b3 [v14,v15] 255,Zg kb 5 v14 t11.1,Zg kb 5 v15 t11.2] ?_;obtain⟨t16,hc,ho⟩:=bind_some ho;refine SP.Wy see (caps:=[]) _ Z08.h rfl rfl rfl rfl (fun w2 hP h1 sub s1 d1 ap hI=>ZV.ok _ _ _ v14 v15 _ hc w2 hP sub trivial trivial _ h1 s1 d1 hI) (SP.k0 ?_);refine ex fun v17=>?_;refine ex fun v18=>?_;refine ss ?_;clear hc;refine gg ?_;exact mo ho (fun _ z=>⟨t16.1,t16.2,v17,v18,z⟩) (sO [2,1,0,3])
 refine ci (hf:=id) ho (fun ho=>?_) fun ho=>?_
 ·exact mo ho (fun _ z=>⟨[],[],nl,nl,z⟩) (fun _ hw=>(nO kb 5 (nO kb 5 hw)))
 refine go ?_;refine CP.seq ?_;refine oi r (fun z=>∃b19,z (Wd.j5 Zn b19) [(2,pt b1),(4,pt b3),(5,i8 Zn),(18,.bool b19)] [Zl b3 [nl,nl] 255,Zl b1 [nl,nl] 255]) ?_ ?_;rotate_left
 ·refine gg ?_;refine ci ho (fun ho=>?_) fun ho=>?_
  ·exact mo ho (fun _ z=>⟨(decide (Zn=9)),z⟩)
  refine ci ho (fun ho=>?_) fun ho=>?_
  ·exact mo ho (fun _ z=>⟨(decide (Zn=10)),z⟩)
  refine ci ho (fun ho=>?_) fun ho=>?_
  ·exact mo ho (fun _ z=>⟨(decide (Zn=11)),z⟩)
  refine ci ho (fun ho=>?_) fun ho=>?_
  ·exact mo ho (fun _ z=>⟨(decide (Zn=12)),z⟩)
  refine ci ho (fun ho=>?_) fun ho=>?_
  ·exact mo ho (fun _ z=>⟨(decide (Zn=13)),z⟩)
  refine ci ho (fun ho=>?_) fun ho=>?_
  ·exact mo ho (fun _ z=>⟨(decide (Zn=14)),z⟩)
  exact mo ho (fun _ z=>⟨(decide (Zn=15)),z⟩)
 rintro _ _ ⟨b19,ho,h⟩;refine en h ?_;refine cb ho (fun ho=>?_) fun ho=>?_
 ·refine sn kb 5 ?_;refine sn kb 5 ?_;refine so (h:=id) [2,1,0,3] ?_;refine sg [Zl b3 [nl,nl] 255,Zg kb 5 nl ([]:List Int),Zg kb 5 nl ([]:List Int)] ?_;obtain⟨t20,hc,ho⟩:=bind_some (x:=Xv.f ([]:List Int) ([]:List Int) 1) ho;refine SP.Wy see (caps:=[]) _ Z5N.h rfl rfl rfl rfl (fun w2 hP h1 sub s1 d1 ap hI=>Xv.ok _ _ _ nl nl _ hc w2 hP sub trivial trivial _ h1 s1 d1 hI) (SP.k0 ?_);refine ex fun v23=>?_;refine ex fun v24=>?_;refine ss ?_;clear hc;refine gg ?_;refine sg [Zl b3 [v23,v24] 255,Zg kb 5 v23 t20.1,Zg kb 5 v24 t20.2] ?_;obtain⟨t25,hc,ho⟩:=bind_some ho;refine SP.Wy see (caps:=[]) _ Z08.h rfl rfl rfl rfl (fun w2 hP h1 sub s1 d1 ap hI=>ZV.ok _ _ _ v23 v24 _ hc w2 hP sub trivial trivial _ h1 s1 d1 hI) (SP.k0 ?_);refine ex fun v26=>?_;refine ex fun v27=>?_;refine ss ?_;clear hc;refine gg ?_;refine sg [Zl b3 [v26,v27] 255,Zg kb 5 v26 t25.1,Zg kb 5 v27 t25.2] ?_;obtain⟨t28,hc,ho⟩:=bind_some ho;refine SP.Wy see (caps:=[]) _ Z08.h rfl rfl rfl rfl (fun w2 hP h1 sub s1 d1 ap hI=>ZV.ok _ _ _ v26 v27 _ hc w2 hP sub trivial trivial _ h1 s1 d1 hI) (SP.k0 ?_);refine ex fun v29=>?_;refine ex fun v30=>?_;refine ss ?_;clear hc;refine gg ?_;exact mo ho (fun _ z=>⟨t28.1,t28.2,v29,v30,z⟩) (sO [2,1,0,3])
 refine ci (hf:=id) ho (fun ho=>?_) fun ho=>?_
 ·refine sn kb 5 ?_;refine sn kb 5 ?_;refine so (h:=id) [2,1,0,3] ?_;refine sg [Zl b3 [nl,nl] 255,Zg kb 5 nl ([]:List Int),Zg kb 5 nl ([]:List Int)] ?_;obtain⟨t31,hc,ho⟩:=bind_some (x:=Xv.f ([]:List Int) ([]:List Int) 2) ho;refine SP.Wy see (caps:=[]) _ Z5N.h rfl rfl rfl rfl (fun w2 hP h1 sub s1 d1 ap hI=>Xv.ok _ _ _ nl nl _ hc w2 hP sub trivial trivial _ h1 s1 d1 hI) (SP.k0 ?_);refine ex fun v34=>?_;refine ex fun v35=>?_;refine ss ?_;clear hc;refine gg ?_;refine sg [Zl b3 [v34,v35] 255,Zg kb 5 v34 t31.1,Zg kb 5 v35 t31.2] ?_;obtain⟨t36,hc,ho⟩:=bind_some ho;refine SP.Wy see (caps:=[]) _ Z08.h rfl rfl rfl rfl (fun w2 hP h1 sub s1 d1 ap hI=>ZV.ok _ _ _ v34 v35 _ hc w2 hP sub trivial trivial _ h1 s1 d1 hI) (SP.k0 ?_);refine ex fun v37=>?_;refine ex fun v38=>?_;refine ss ?_;clear hc;refine gg ?_;refine sg [Zl b3 [v37,v38] 255,Zg kb 5 v37 t36.1,Zg kb 5 v38 t36.2] ?_;obtain⟨t39,hc,ho⟩:=bind_some ho;refine SP.Wy see (caps:=[]) _ Z08.h rfl rfl rfl rfl (fun w2 hP h1 sub s1 d1 ap hI=>ZV.ok _ _ _ v37 v38 _ hc w2 hP sub trivial trivial _ h1 s1 d1 hI) (SP.k0 ?_);refine ex fun v40=>?_;refine ex fun v41=>?_;refine ss ?_;clear hc;refine gg ?_;exact mo ho (fun _ z=>⟨t39.1,t39.2,v40,v41,z⟩) (sO [2,1,0,3])
 refine go ?_;refine CP.seq ?_;refine oi r (fun z=>∃b42,z (Wd.j6 Zn b42) [(2,pt b1),(4,pt b3),(5,i8 Zn),(28,.bool b42)] [Zl b3 [nl,nl] 255,Zl b1 [nl,nl] 255]) ?_ ?_;rotate_left
 ·refine gg ?_;refine ci ho (fun ho=>?_) fun ho=>?_
  ·exact mo ho (fun _ z=>⟨(decide (Zn=17)),z⟩)
  exact mo ho (fun _ z=>⟨(decide (Zn=18)),z⟩)
 rintro _ _ ⟨b42,ho,h⟩;refine en h ?_;refine cb (hf:=id) ho (fun ho=>?_) fun ho=>?_
 ·refine sn kb 5 ?_;refine sn kb 5 ?_;refine so (h:=id) [2,1,0,3] ?_;refine sg [Zl b3 [nl,nl] 255,Zg kb 5 nl ([]:List Int),Zg kb 5 nl ([]:List Int)] ?_;obtain⟨t43,hc,ho⟩:=bind_some (x:=Xv.f ([]:List Int) ([]:List Int) 1) ho;refine SP.Wy see (caps:=[]) _ Z5N.h rfl rfl rfl rfl (fun w2 hP h1 sub s1 d1 ap hI=>Xv.ok _ _ _ nl nl _ hc w2 hP sub trivial trivial _ h1 s1 d1 hI) (SP.k0 ?_);refine ex fun v46=>?_;refine ex fun v47=>?_;refine ss ?_;clear hc;refine gg ?_;refine sg [Zl b3 [v46,v47] 255,Zg kb 5 v46 t43.1,Zg kb 5 v47 t43.2] ?_;obtain⟨t48,hc,ho⟩:=bind_some ho;refine SP.Wy see (caps:=[]) _ Z08.h rfl rfl rfl rfl (fun w2 hP h1 sub s1 d1 ap hI=>ZV.ok _ _ _ v46 v47 _ hc w2 hP sub trivial trivial _ h1 s1 d1 hI) (SP.k0 ?_);refine ex fun v49=>?_;refine ex fun v50=>?_;refine ss ?_;clear hc;refine gg ?_;exact mo ho (fun _ z=>⟨t48.1,t48.2,v49,v50,z⟩) (sO [2,1,0,3])
 refine go ?_;refine CP.seq ?_;refine oi r (fun z=>∃b51,z (Wd.j7 Zn b51) [(2,pt b1),(4,pt b3),(5,i8 Zn),(31,.bool b51)] [Zl b3 [nl,nl] 255,Zl b1 [nl,nl] 255]) ?_ ?_;rotate_left
 ·refine gg ?_;refine ci ho (fun ho=>?_) fun ho=>?_
  ·exact mo ho (fun _ z=>⟨(decide (Zn=19)),z⟩)
  exact mo ho (fun _ z=>⟨(decide (Zn=20)),z⟩)
 rintro _ _ ⟨b51,ho,h⟩;refine en h ?_;refine cb ho (fun ho=>?_) fun ho=>?_
 ·refine sn kb 5 ?_;refine sn kb 5 ?_;refine so (h:=id) [2,1,0,3] ?_;refine sg [Zl b3 [nl,nl] 255,Zg kb 5 nl ([]:List Int),Zg kb 5 nl ([]:List Int)] ?_;obtain⟨t52,hc,ho⟩:=bind_some (x:=ZV.f ([]:List Int) ([]:List Int) 2) ho;refine SP.Wy see (caps:=[]) _ Z08.h rfl rfl rfl rfl (fun w2 hP h1 sub s1 d1 ap hI=>ZV.ok _ _ _ nl nl _ hc w2 hP sub trivial trivial _ h1 s1 d1 hI) (SP.k0 ?_);refine ex fun v55=>?_;refine ex fun v56=>?_;refine ss ?_;clear hc;refine gg ?_;exact mo ho (fun _ z=>⟨t52.1,t52.2,v55,v56,z⟩) (sO [2,1,0,3])
 refine ci ho (fun ho=>?_) fun ho=>?_
 ·exact mo ho (fun _ z=>⟨[],[],nl,nl,z⟩) (fun _ hw=>(nO kb 5 (nO kb 5 hw)))
 refine ci ho (fun ho=>?_) fun ho=>?_
 ·refine sn kb 5 ?_;refine sn kb 5 ?_;refine so (h:=id) [2,1,0,3] ?_;refine sg [Zl b3 [nl,nl] 255,Zg kb 5 nl ([]:List Int),Zg kb 5 nl ([]:List Int)] ?_;obtain⟨t57,hc,ho⟩:=bind_some (x:=ZV.f ([]:List Int) ([]:List Int) 1) ho;refine SP.Wy see (caps:=[]) _ Z08.h rfl rfl rfl rfl (fun w2 hP h1 sub s1 d1 ap hI=>ZV.ok _ _ _ nl nl _ hc w2 hP sub trivial trivial _ h1 s1 d1 hI) (SP.k0 ?_);refine ex fun v60=>?_;refine ex fun v61=>?_;refine ss ?_;clear hc;refine gg ?_;refine sg [Zl b3 [v60,v61] 255,Zg kb 5 v60 t57.1,Zg kb 5 v61 t57.2] ?_;obtain⟨t62,hc,ho⟩:=bind_some ho;refine SP.Wy see (caps:=[]) _ Z5N.h rfl rfl rfl rfl (fun w2 hP h1 sub s1 d1 ap hI=>Xv.ok _ _ _ v60 v61 _ hc w2 hP sub trivial trivial _ h1 s1 d1 hI) (SP.k0 ?_);refine ex fun v63=>?_;refine ex fun v64=>?_;refine ss ?_;clear hc;refine gg ?_;exact mo ho (fun _ z=>⟨t62.1,t62.2,v63,v64,z⟩) (sO [2,1,0,3])
 refine ci ho (fun ho=>?_) fun ho=>?_
 ·refine sn kb 5 ?_;refine sn kb 5 ?_;refine so (h:=id) [2,1,0,3] ?_;refine sg [Zl b3 [nl,nl] 255,Zg kb 5 nl ([]:List Int),Zg kb 5 nl ([]:List Int)] ?_;obtain⟨t65,hc,ho⟩:=bind_some (x:=ZV.f ([]:List Int) ([]:List Int) 3) ho;refine SP.Wy see (caps:=[]) _ Z08.h rfl rfl rfl rfl (fun w2 hP h1 sub s1 d1 ap hI=>ZV.ok _ _ _ nl nl _ hc w2 hP sub trivial trivial _ h1 s1 d1 hI) (SP.k0 ?_);refine ex fun v68=>?_;refine ex fun v69=>?_;refine ss ?_;clear hc;refine gg ?_;refine sg [Zl b3 [v68,v69] 255,Zg kb 5 v68 t65.1,Zg kb 5 v69 t65.2] ?_;obtain⟨t70,hc,ho⟩:=bind_some ho;refine SP.Wy see (caps:=[]) _ Z08.h rfl rfl rfl rfl (fun w2 hP h1 sub s1 d1 ap hI=>ZV.ok _ _ _ v68 v69 _ hc w2 hP sub trivial trivial _ h1 s1 d1 hI) (SP.k0 ?_);refine ex fun v71=>?_;refine ex fun v72=>?_;refine ss ?_;clear hc;refine gg ?_;refine sg [Zl b3 [v71,v72] 255,Zg kb 5 v71 t70.1,Zg kb 5 v72 t70.2] ?_;obtain⟨t73,hc,ho⟩:=bind_some ho;refine SP.Wy see (caps:=[]) _ Z5N.h rfl rfl rfl rfl (fun w2 hP h1 sub s1 d1 ap hI=>Xv.ok _ _ _ v71 v72 _ hc w2 hP sub trivial trivial _ h1 s1 d1 hI) (SP.k0 ?_);refine ex fun v74=>?_;refine ex fun v75=>?_;refine ss ?_;clear hc;refine gg ?_;exact mo ho (fun _ z=>⟨t73.1,t73.2,v74,v75,z⟩) (sO [2,1,0,3])
 refine ci ho (fun ho=>?_) fun ho=>?_;rotate_left
 ·refine bd [nl,nl] ?_;refine st 1 ?_;exact sI ho▸rt (fun _ h=>sQ [1,0] (nO kb 5 (nO kb 5 h)))
 refine sn kb 5 ?_;refine sn kb 5 ?_;refine so (h:=id) [2,1,0,3] ?_;refine sg [Zl b3 [nl,nl] 255,Zg kb 5 nl ([]:List Int),Zg kb 5 nl ([]:List Int)] ?_;obtain⟨t76,hc,ho⟩:=bind_some (x:=ZV.f ([]:List Int) ([]:List Int) 3) ho;refine SP.Wy see (caps:=[]) _ Z08.h rfl rfl rfl rfl (fun w2 hP h1 sub s1 d1 ap hI=>ZV.ok _ _ _ nl nl _ hc w2 hP sub trivial trivial _ h1 s1 d1 hI) (SP.k0 ?_);refine ex fun v79=>?_;refine ex fun v80=>?_;refine ss ?_;clear hc;refine gg ?_;refine sg [Zl b3 [v79,v80] 255,Zg kb 5 v79 t76.1,Zg kb 5 v80 t76.2] ?_;obtain⟨t81,hc,ho⟩:=bind_some ho;refine SP.Wy see (caps:=[]) _ Z5N.h rfl rfl rfl rfl (fun w2 hP h1 sub s1 d1 ap hI=>Xv.ok _ _ _ v79 v80 _ hc w2 hP sub trivial trivial _ h1 s1 d1 hI) (SP.k0 ?_);refine ex fun v82=>?_;refine ex fun v83=>?_;refine ss ?_;clear hc;refine gg ?_;exact mo ho (fun _ z=>⟨t81.1,t81.2,v82,v83,z⟩) (sO [2,1,0,3])
def V3.f(s_0:List Int):Option (List Int):=
  Z8J s_0 (some []) (if(([]:List Int).length+s_0.length)*1≤140737488355328 then(some (([]:List Int)++s_0))else none)
theorem V3.ok{s_0 X4}(r)(ho:V3.f s_0=some r):Ok Tryz.prog 81 [X4] [Z9 kb X4 s_0] fun v=>HO.ex fun u0:Value=>HO.Yr (v=u0) (HO.Yk [Zg kb 5 u0 r]):=by
 refine oq 8 Tryz.func81 fun w hV see pb=>?_;refine SP.val (Val.ZjH see 0 rfl Tryz.underlying31 rfl rfl) rfl rfl rfl (gg ?_);refine CP.have (fun w2 hw=>Xb.isNil (v:=X4) (St.Ur 0 rfl see.sub see.dj hw)) (fun hnil=>?_);rcases Bool.eq_false_or_eq_true (Z9I X4)with hc|hc
 ·replace ho:=ZdO ho (hnil hc);refine CP.W9 rfl hc (gg ?_);exact sI ho▸rt (fun _ h=>sQ [0] (nO kb 5 h))
 replace ho:=ZdP ho;refine CP.K4 rfl hc (gg ?_);refine SP.ZbW (k:=kb) Tryz.underlying31 Z5M.h rfl rfl (fun v3=>gg ?_);refine ap 0 0 ho fun v5 ho=>?_;exact sI ho▸rt (sO [0])
def Wu.j1(Xz XA:List Zp)(Xw:List Zb)(YD:Int)(XE X3:List Int)(Yg:Int)(Yl:Bool)(Ym Yn Yo:Int)(YU:List Z7)(YZ:List Int)(WO:List Zi)(YE:Z7)(b30:Bool):Option (Int×(List Zi)):=
  if b30=true then((elt Xz YE.A).bind fun x33=>some (x33.Kind,WO))else((elt YZ YE.A).bind fun x38=>some (x38,WO))
def Wu.f(Xz XA:List Zp)(Xw:List Zb)(YD:Int)(XE X3:List Int)(Yg:Int)(Yl:Bool)(Ym Yn Yo:Int)(YU:List Z7)(YZ:List Int)(WO:List Zi)(YE:Z7):Option (Int×(List Zi)):=
  if YE.Op=1 then((elt XA YE.A).bind fun x27=>some (x27.Kind,WO))else(if YE.Op=4 then(Wu.j1 Xz XA Xw YD XE X3 Yg Yl Ym Yn Yo YU YZ WO YE (decide (YE.Op=4)))else(Wu.j1 Xz XA Xw YD XE X3 Yg Yl Ym Yn Yo YU YZ WO YE (decide (YE.Op=5))))
theorem Wu.ok(Xz XA:List Zp)(Xw:List Zb)(YD:Int)(XE X3:List Int)(Yg:Int)(Yl:Bool)(Ym Yn Yo:Int)(YU:List Z7)(YZ:List Int)(WO:List Zi)(YE:Z7)(XQ XR XT XU Xk Xl Xm:Value)(r:Int×(List Zi))(H:Wu.f Xz XA Xw YD XE X3 Yg Yl Ym Yn Yo YU YZ WO YE=some r)(w:World)(hV:Hp)(sV:Sub hV (hp w))(h0:Xb Z4 hV XQ Xz)(h1:Xb Z4 hV XR XA)(h2:Xb Zd hV XT Xw)(h3:Xb kb hV XU XE)(h4:Xb kb hV Xk X3)(h5:Xb Z8 hV Xl YU)(h6:Xb kb hV Xm YZ)(b1:Nat)(hA:Hp)(sA:Sub hA (hp w))(dA:Dj hV hA)(hI:(WT ZP b1 [XQ,XR,XT,i6 YD,XU,Xk,i8 Yg,.bool Yl,i6 Ym,i6 Yn,i6 Yo,Xl,Xm] 200 WO [] 122).p hV hA) :
    XL Tryz.prog 240 [pt b1,.agg #[i8 YE.Op,i6 YE.A,i6 YE.B]].toArray hA hV w (fun v=>HO.Yr (v=i8 r.1) (HO.Yk [WT ZP b1 [XQ,XR,XT,i6 YD,XU,Xk,i8 Yg,.bool Yl,i6 Ym,i6 Yn,i6 Yo,Xl,Xm] 200 r.2 [] 122])):=by
 have see:YG w hA hV:=⟨sV,dA⟩
 refine XL.of (P:=Tryz.prog) (n:=⟨40,[]⟩) Tryz.func240 rfl ⟨rfl,rfl⟩ rfl (St.K6 (os:=[WT ZP b1 [XQ,XR,XT,i6 YD,XU,Xk,i8 Yg,.bool Yl,i6 Ym,i6 Yn,i6 Yo,Xl,Xm] 200 WO [] 122]) sA (aS h0 (aS h1 (aS h2 (aS h3 (aS h4 (aS h5 (aS h6 (All.nil _)))))))) ⟨hA,em,Dj.WM _,Sub.refl _,Sub.em _,hI,trivial⟩) ?_;have ho:=H;refine gg ?_;refine bx fun b23=>?_;refine ci (hf:=id) ho (fun ho=>?_) fun ho=>?_
 ·refine dr ?_;refine DA.ph 0 7 ?_;refine DT.tk 0 ?_;refine DT.tk 1 ?_;refine DT.tk 2 ?_;refine DT.tk 3 ?_;refine DT.tv 4 rfl (Val.JW see 1 rfl Tryz.underlying22 rfl rfl rfl) ?_;refine DT.tk 5 ?_;refine DT.tk 6 ?_;refine dn ?_;refine d1 7 ?_;refine ip 1 ho fun x27 ho p25=>?_;refine d1 8 ?_;refine SP.WG see 0 rfl Tryz.underlying100 rfl Tj.h Z4.Z3q rfl rfl rfl (fun p28=>gg ?_);refine d1 9 ?_;refine d1 10 ?_;refine dz ?_;exact sI ho▸rt (sO [1])
 refine oi r (fun z=>∃b30,z (Wu.j1 Xz XA Xw YD XE X3 Yg Yl Ym Yn Yo YU YZ WO YE b30) [(0,pt b1),(3,pt b23),(19,.bool b30)] [Zl b23 [i8 YE.Op,i6 YE.A,i6 YE.B] 43,WT ZP b1 [XQ,XR,XT,i6 YD,XU,Xk,i8 Yg,.bool Yl,i6 Ym,i6 Yn,i6 Yo,Xl,Xm] 200 WO [] 122]) ?_ ?_ (hb:=pe [Z9 Z4 XQ Xz,Z9 Z4 XR XA,Z9 Zd XT Xw,Z9 kb XU XE,Z9 kb Xk X3,Z9 Z8 Xl YU,Z9 kb Xm YZ]);rotate_left
 ·refine gg ?_;refine ci ho (fun ho=>?_) fun ho=>?_
  ·exact mo ho (fun _ z=>⟨(decide (YE.Op=4)),z⟩)
  exact mo ho (fun _ z=>⟨(decide (YE.Op=5)),z⟩)
 rintro _ _ ⟨b30,ho,h⟩;refine en h ?_;refine cb ho (fun ho=>?_) fun ho=>?_
 ·refine dr ?_;refine DA.ph 0 7 ?_;refine DT.tk 0 ?_;refine DT.tk 1 ?_;refine DT.tk 2 ?_;refine DT.tk 3 ?_;refine DT.tv 4 rfl (Val.JW see 1 rfl Tryz.underlying22 rfl rfl rfl) ?_;refine DT.tk 5 ?_;refine DT.tk 6 ?_;refine dn ?_;refine d1 7 ?_;refine ip 0 ho fun x33 ho p31=>?_;refine d1 8 ?_;refine SP.WG see 0 rfl Tryz.underlying100 rfl Tj.h Z4.Z3q rfl rfl rfl (fun p34=>gg ?_);refine d1 9 ?_;refine d1 10 ?_;refine dz ?_;exact sI ho▸rt (sO [1])
 refine dr ?_;refine DA.ph 0 6 ?_;refine DT.tk 0 ?_;refine DT.tk 1 ?_;refine DT.tk 2 ?_;refine DT.tv 3 rfl (Val.JW see 1 rfl Tryz.underlying31 rfl rfl rfl) ?_;refine DT.tk 4 ?_;refine DT.tk 5 ?_;refine dn ?_;refine d1 6 ?_;refine ip 6 ho fun x38 ho p36=>?_;refine d1 7 ?_;refine d1 8 ?_;refine dz ?_;exact sI ho▸rt (sO [1])
shelf_lay_g SlLaysE.n35 Slgn 35 at Tryz 241 as Tryz.reverse241
theorem Z97{v:Value}{l:List Int}(hll:l.length<4611686018427387904){w:World}{hP h1:Hp}(sub:Sub hP (hp w))(s1:Sub h1 (hp w))(dj:Dj hP h1)(hI:(Zg (Uz .u8) 5 v l).p hP h1) :
    XL Tryz.prog 241 #[v] h1 hP w (fun r=>HO.Yr (r=.tuple #[]) (HO.Yk [Zg (Uz .u8) 5 v l.reverse])):=by
  have h:=Zg.Z7n (P:=Tryz.prog) (f:=241) (fun v => #[v]) (fun _ =>.tuple #[]) (fun x=>[Value.int .u8 x]) (fun h cs x=>Iff.rfl) (fun d:Array Int=>d.toList.reverse.toArray) (fun d=>by simp) (fun blk cap d w hH hb hsz _ _=>?_) (fun _ w hV sV=>?_) hll sub s1 dj hI
  · simpa using h
  · have:=AnyE.slices_Reverse Tryz.reverse241 (Value.int .u8) (fun _=>rfl) blk 0 cap d.toList w (holdsOne.1 hH) (by simp;omega)
    refine this.mono fun e w' ⟨h1,n,h2⟩=>⟨h1,n,#[],h2.trans (Eq.trans ?_ (Eq.symm Z9L))⟩
    rw[ZaR]
  · refine(AnyE.slices_Reverse_empty Tryz.reverse241 none 0 w).mono fun e w' ⟨he,hw⟩=>?_
    subst hw;exact⟨_,he,Met.refl _,fun _ _ e _=>e,em,em,fun _ _ _=>rfl,fun _ _ _=>rfl,Dj.YM _,Sub.em _,Sub.em _,rfl⟩
shelf_lay Lays.n212 Nm 212 at Tryz as Tryz.bitsMul203
def Un.f(x y:Int):Option (Int×Int):=if 0≤x∧x<18446744073709551616∧0≤y∧y<18446744073709551616 then some (x*y / 18446744073709551616,x*y % 18446744073709551616)else none
theorem Un.ok(x:Int)(y:Int)(r:Int×Int)(H:Un.f x y=some r)(w:World)(hV:Hp)(sV:Sub hV (hp w)) :
    XL Tryz.prog 203 [.int .u64 x,.int .u64 y].toArray em hV w (fun v=>HO.pure (v=.tuple #[.int .u64 r.1,.int .u64 r.2])):=by
  unfold Un.f at H;obtain⟨⟨h1,h2,h3,h4⟩,H⟩:=Xn H;obtain rfl:=sI H;obtain⟨a,rfl⟩:=Int.eq_ofNat_of_zero_le h1;obtain⟨b,rfl⟩:=Int.eq_ofNat_of_zero_le h3;refine(Any.bits_Mul Tryz.bitsMul203 a b (by omega) (by omega) w).mono fun e w' ⟨he,hw⟩=>?_;subst hw;refine⟨_,he,Met.refl _,fun _ _ e _=>e,em,em,fun _ _ _=>rfl,fun _ _ _=>rfl,Dj.YM _,Sub.em _,Sub.em _,?_⟩;show Value.tuple _=Value.tuple _;simp
inductive ZU.S where
  |start
  |l1 (UG:List Int) (Xt:Int)
def ZU.j2(x_0:List Int)(V6:Int)(t3:Int×Int):Option (ZU.S⊕(List Int)):=
  if(0:Int)≤(IntKind.i64.wrap t3.2)∧(1:Int)*(IntKind.i64.wrap t3.2)≤281474976710656∧((IntKind.i64.wrap t3.2):Int)≤9223372036854775807 then(some (.inl (.l1 (x_0.take (List.replicate (IntKind.i64.wrap t3.2:Int).toNat 0:List Int).length++(List.replicate (IntKind.i64.wrap t3.2:Int).toNat 0:List Int).drop x_0.length) ((min x_0.length (List.replicate (IntKind.i64.wrap t3.2:Int).toNat 0:List Int).length:Nat):Int))))else none
def ZU.j1(x_0:List Int)(V6:Int)  : Option (ZU.S⊕(List Int)):=
  (Un.f (IntKind.u64.wrap (x_0.length:Int)) (IntKind.u64.wrap V6)).bind fun t3=>if((decide (t3.1>0))||(decide (t3.2>9223372036854775807)))=true then(none)else(ZU.j2 x_0 V6 t3)
def ZU.F(x_0:List Int)(V6:Int):ZU.S→Option (ZU.S⊕(List Int))
  | .start=>if V6<0 then(none)else(ZU.j1 x_0 V6)
  | .l1 UG Xt=>if Xt<(UG.length:Int)then(if(0:Int)≤Xt∧Xt≤(UG.length:Int)then(if(0:Int)≤Xt∧Xt≤(UG.length:Int)then(some (.inl (.l1 (UG.take (Xt:Int).toNat++UG.take (min (Xt:Int).toNat (UG.length-(Xt:Int).toNat))++UG.drop ((Xt:Int).toNat+min (Xt:Int).toNat (UG.length-(Xt:Int).toNat))) (IntKind.i64.wrap (Xt+((min (Xt:Int).toNat (UG.length-(Xt:Int).toNat):Nat):Int))))))else none)else none)else(some (.inr UG))
def ZU.f(x_0:List Int)(V6:Int):Option (List Int):=Zw (ZU.F x_0 V6) .start
theorem ZU.ok{x_0 V6 Z3W}(r)(H:ZU.f x_0 V6=some r):Ok Tryz.prog 242 [Z3W,i6 V6] [Z9 kb Z3W x_0] fun v=>HO.ex fun u0:Value=>HO.Yr (v=u0) (HO.Yk [Zg kb 5 u0 r]):=by
 refine oq (h:=fun _ _ _=>id) 48 Tryz.func242 fun w hV see pb=>?_;obtain⟨m0,o,ho,hr⟩:=rn H;refine go ?_;refine ji hr (fun z=>z (ZU.j1 x_0 V6) [(0,Z3W),(1,i6 V6)] []) ?_ ?_;rotate_left
 ·refine gg ?_;refine ci ho (fun ho=>?_) fun ho=>?_
  ·cases ho
  exact mi ho hr (fun _ z=>z)
 rintro _ _ ⟨m2,o,_,ho,hr,h⟩;refine en h ?_;obtain⟨t3,hc,ho⟩:=bind_some ho;refine SP.Z05 see (caps:=[]) (.tuple #[.int .u64 t3.1,.int .u64 t3.2]) ZjT.h rfl rfl rfl rfl (fun w2 hP hs sub ap=>Un.ok _ _  _ hc w2 hP sub ) ?_;clear hc;refine go ?_;refine ji hr (fun z=>z (ZU.j2 x_0 V6 t3) [(0,Z3W),(6,.int .u64 t3.2)] []) ?_ ?_;rotate_left
 ·refine gg ?_;refine sj 3 [0,6] 26 ho ?_ ?_
  ·refine gg ?_;refine cb ho (fun ho=>?_) fun ho=>?_
   ·cases ho
   exact mi ho hr (fun _ z=>z)
  refine bb 23 (fun UF=>?_) fun UF=>?_
  ·exact jb (Vi UF)
  exact jb (Vj UF rfl)
 rintro _ _ ⟨m6,o,_,ho,hr,h⟩;refine en h ?_;obtain⟨hb,ho⟩:=Xn ho;refine SP.ZeQ (k:=kb) (z:=0) Tryz.underlying31 Z5M.h rfl (fun _=>rfl) rfl rfl rfl rfl hb (fun v7=>?_);clear hb;refine gg ?_;refine SP.Zgg see 0 rfl 0 rfl Tryz.underlying31 Tj.h rfl rfl rfl rfl rfl (gg ?_);refine lo ho hr (fun z=>∃UG Xt v13,z (.l1 UG Xt) [(7,v13),(8,i6 Xt)] [Zg kb 5 v13 UG]) (fun _ z=>⟨(x_0.take (List.replicate (wr t3.2:Int).toNat 0:List Int).length++(List.replicate (wr t3.2:Int).toNat 0:List Int).drop x_0.length),((min x_0.length (List.replicate (wr t3.2:Int).toNat 0:List Int).length:Nat):Int),v7,z⟩) ?_ (hb:=pe []);rintro _ _ _ ⟨UG,Xt,v13,m15,o,_,_,ho,hr,h⟩;refine en h ?_;refine ci ho (fun ho=>?_) fun ho=>?_;rotate_left
 ·exact fin ho hr▸rt (sO [0])
 refine dr ?_;refine DA.phase (fun _=>true) (fun _=>True) ?_;refine DT.take 0 rfl rfl rfl rfl (by kernel_rfl) (fun _ _ _ h=>h) (Val.move rfl) (fun _ _=>trivial) ?_;refine DT.take 1 rfl rfl rfl rfl (by kernel_rfl) (fun _ _ _ h=>h) (Val.move rfl) (fun _ _=>trivial) ?_;refine DT.take 2 rfl rfl rfl rfl (by kernel_rfl) (fun _ _ _ h=>h) (Val.move rfl) (fun _ _=>trivial) ?_;refine DT.take 4 rfl rfl rfl rfl (by kernel_rfl) (fun _ _ _ h=>h) (Val.move rfl) (fun _ _=>trivial) ?_;refine DT.take 5 rfl rfl rfl rfl (by kernel_rfl) (fun _ _ _ h=>h) (Val.move rfl) (fun _ _=>trivial) ?_;refine DT.list (l2 := #[true,true,true,false,true,true,false,false,false,false]) (by kernel_rfl) ?_;refine DT.free ?_;obtain⟨ZiF,ho⟩:=Xn ho;obtain⟨ZiG,ho⟩:=Xn ho;refine DA.ph 0 7 ?_;refine DT.tv 3 rfl (Val.sliceFrom see 0 rfl Tryz.underlying31 Tj.h rfl rfl ZiF) ?_;refine DT.tv 6 rfl (Val.sliceTo see 0 rfl Tryz.underlying31 Tj.h rfl rfl ZiG) ?_;refine dn ?_;refine d1 7 ?_;refine SP.Zc5 see 0 rfl Tryz.underlying31 Tj.h rfl (by omega) rfl rfl rfl rfl (gg ?_);refine d1 8 ?_;refine d1 9 ?_;refine dz ?_;exact lw ho hr (fun _ z=>⟨(UG.take (Xt:Int).toNat++UG.take (min (Xt:Int).toNat (UG.length-(Xt:Int).toNat))++UG.drop ((Xt:Int).toNat+min (Xt:Int).toNat (UG.length-(Xt:Int).toNat))),(wr (Xt+((min (Xt:Int).toNat (UG.length-(Xt:Int).toNat):Nat):Int))),v13,z⟩)
def ZR.j1(Xz XA:List Zp)(Xw:List Zb)(YD:Int)(XE X3:List Int)(Yg:Int)(Yl:Bool)(Ym Yn Yo:Int)(YU:List Z7)(YZ:List Int)(WO:List Zi)(YE:Z7)(Wv:List Int)(Z98:List Zi)(Z99 Z9a:List Int):Option (WY×(List Zi)):=
  some ((⟨Z99,Z9a⟩:WY),Z98)
def ZR.j2(Xz XA:List Zp)(Xw:List Zb)(YD:Int)(XE X3:List Int)(Yg:Int)(Yl:Bool)(Ym Yn Yo:Int)(YU:List Z7)(YZ:List Int)(WO:List Zi)(YE:Z7)(Wv:List Int)(t28:WY×Bool)(Z7w:List Int):Option (WY×(List Zi)):=
  ZR.j1 Xz XA Xw YD XE X3 Yg Yl Ym Yn Yo YU YZ WO YE Wv WO [0] Z7w
def ZR.j4(Xz XA:List Zp)(Xw:List Zb)(YD:Int)(XE X3:List Int)(Yg:Int)(Yl:Bool)(Ym Yn Yo:Int)(YU:List Z7)(YZ:List Int)(WO:List Zi)(YE:Z7)(Wv:List Int)(t28:WY×Bool)(t37:List Int)(b46:Bool):Option (WY×(List Zi)):=
  if b46=true then((Wu.f Xz XA Xw YD XE X3 Yg Yl Ym Yn Yo YU YZ WO YE).bind fun t47=>ZR.j1 Xz XA Xw YD XE X3 Yg Yl Ym Yn Yo YU YZ WO YE Wv t47.2 [t47.1] t28.1.Gives)else(if YE.Op=30 then((elt Xw YE.A).bind fun x52=>(elt Xw YE.A).bind fun KU=>ZR.j1 Xz XA Xw YD XE X3 Yg Yl Ym Yn Yo YU YZ WO YE Wv WO x52.Args [KU.Result])else(if YE.Op=31 then(ZR.j1 Xz XA Xw YD XE X3 Yg Yl Ym Yn Yo YU YZ WO YE Wv WO [Yg] t28.1.Gives)else(if YE.Op=8 then(if t37.length<4611686018427387904 then(if([0].length + [0].length)*1≤140737488355328 then(ZR.j1 Xz XA Xw YD XE X3 Yg Yl Ym Yn Yo YU YZ WO YE Wv WO ([0] ++ [0]) t37.reverse)else none)else none)else(if YE.Op=7 then(if(t37.length:Int)>0 then(if(0:Int)≤(IntKind.i64.wrap ((t37.length:Int)-1))∧(IntKind.i64.wrap ((t37.length:Int)-1))≤(t37.length:Int)then((ZU.f (t37.drop (IntKind.i64.wrap ((t37.length:Int)-1):Int).toNat) 2).bind fun Zfi=>ZR.j2 Xz XA Xw YD XE X3 Yg Yl Ym Yn Yo YU YZ WO YE Wv t28 Zfi)else none)else(ZR.j2 Xz XA Xw YD XE X3 Yg Yl Ym Yn Yo YU YZ WO YE Wv t28 t28.1.Gives))else(ZR.j2 Xz XA Xw YD XE X3 Yg Yl Ym Yn Yo YU YZ WO YE Wv t28 t28.1.Gives)))))
def ZR.j3(Xz XA:List Zp)(Xw:List Zb)(YD:Int)(XE X3:List Int)(Yg:Int)(Yl:Bool)(Ym Yn Yo:Int)(YU:List Z7)(YZ:List Int)(WO:List Zi)(YE:Z7)(Wv:List Int)(t28:WY×Bool)(t37:List Int)(b42:Bool):Option (WY×(List Zi)):=
  if b42=true then((Wu.f Xz XA Xw YD XE X3 Yg Yl Ym Yn Yo YU YZ WO YE).bind fun t43=>ZR.j1 Xz XA Xw YD XE X3 Yg Yl Ym Yn Yo YU YZ WO YE Wv t43.2 t28.1.Takes [t43.1])else(if YE.Op=3 then(ZR.j4 Xz XA Xw YD XE X3 Yg Yl Ym Yn Yo YU YZ WO YE Wv t28 t37 (decide (YE.Op=3)))else(ZR.j4 Xz XA Xw YD XE X3 Yg Yl Ym Yn Yo YU YZ WO YE Wv t28 t37 (decide (YE.Op=5))))
def ZR.f(Xz XA:List Zp)(Xw:List Zb)(YD:Int)(XE X3:List Int)(Yg:Int)(Yl:Bool)(Ym Yn Yo:Int)(YU:List Z7)(YZ:List Int)(WO:List Zi)(YE:Z7)(Wv:List Int):Option (WY×(List Zi)):=
  (Wd.f YE.Op).bind fun t28=>if t28.2=true then(some (t28.1,WO))else(if(0:Int)≤(if(IntKind.i64.wrap ((Wv.length:Int)-2))>0 then IntKind.i64.wrap ((Wv.length:Int)-2)else 0)∧(if(IntKind.i64.wrap ((Wv.length:Int)-2))>0 then IntKind.i64.wrap ((Wv.length:Int)-2)else 0)≤(Wv.length:Int)then((V3.f (Wv.drop (if(IntKind.i64.wrap ((Wv.length:Int)-2))>0 then IntKind.i64.wrap ((Wv.length:Int)-2)else 0:Int).toNat)).bind fun t37=>if YE.Op=1 then(ZR.j3 Xz XA Xw YD XE X3 Yg Yl Ym Yn Yo YU YZ WO YE Wv t28 t37 (decide (YE.Op=1)))else(if YE.Op=2 then(ZR.j3 Xz XA Xw YD XE X3 Yg Yl Ym Yn Yo YU YZ WO YE Wv t28 t37 (decide (YE.Op=2)))else(ZR.j3 Xz XA Xw YD XE X3 Yg Yl Ym Yn Yo YU YZ WO YE Wv t28 t37 (decide (YE.Op=4)))))else none)
theorem ZR.ok(Xz XA:List Zp)(Xw:List Zb)(YD:Int)(XE X3:List Int)(Yg:Int)(Yl:Bool)(Ym Yn Yo:Int)(YU:List Z7)(YZ:List Int)(WO:List Zi)(YE:Z7)(Wv:List Int)(XQ XR XT XU Xk Xl Xm Z32:Value)(r:WY×(List Zi))(H:ZR.f Xz XA Xw YD XE X3 Yg Yl Ym Yn Yo YU YZ WO YE Wv=some r)(w:World)(hV:Hp)(sV:Sub hV (hp w))(h0:Xb Z4 hV XQ Xz)(h1:Xb Z4 hV XR XA)(h2:Xb Zd hV XT Xw)(h3:Xb kb hV XU XE)(h4:Xb kb hV Xk X3)(h5:Xb Z8 hV Xl YU)(h6:Xb kb hV Xm YZ)(h7:Xb kb hV Z32 Wv)(b1:Nat)(hA:Hp)(sA:Sub hA (hp w))(dA:Dj hV hA)(hI:(WT ZP b1 [XQ,XR,XT,i6 YD,XU,Xk,i8 Yg,.bool Yl,i6 Ym,i6 Yn,i6 Yo,Xl,Xm] 200 WO [] 122).p hV hA) :
    XL Tryz.prog 199 [pt b1,.agg #[i8 YE.Op,i6 YE.A,i6 YE.B],Z32].toArray hA hV w (fun v=>HO.ex fun u0:Value=>HO.ex fun u1:Value=>HO.Yr (v=.agg #[u0,u1]) (HO.Yk [HO.ofP (Z9 kb u0 r.1.Takes),Zg kb 5 u1 r.1.Gives,WT ZP b1 [XQ,XR,XT,i6 YD,XU,Xk,i8 Yg,.bool Yl,i6 Ym,i6 Yn,i6 Yo,Xl,Xm] 200 r.2 [] 122])):=by
 have see:YG w hA hV:=⟨sV,dA⟩
 refine XL.of (P:=Tryz.prog) (n:=⟨106,[]⟩) Tryz.func199 rfl ⟨rfl,rfl⟩ rfl (St.K6 (os:=[WT ZP b1 [XQ,XR,XT,i6 YD,XU,Xk,i8 Yg,.bool Yl,i6 Ym,i6 Yn,i6 Yo,Xl,Xm] 200 WO [] 122]) sA (aS h0 (aS h1 (aS h2 (aS h3 (aS h4 (aS h5 (aS h6 (aS h7 (All.nil _))))))))) ⟨hA,em,Dj.WM _,Sub.refl _,Sub.em _,hI,trivial⟩) ?_;have ho:=H;refine gg ?_;refine bx fun b24=>?_;refine al fun KM=>?_;refine k2 Wd.ok ho fun t28 ho v29 v30=>?_;refine al (h:=fun _=>id) fun b33=>?_;refine sh (h:=id) 1 fun ZgQ=>?_;refine sh 2 fun Zgw=>?_;refine st 0 ?_;refine cb ho (fun ho=>?_) fun ho=>?_
 ·refine sh (h:=id) 1 fun ZgQ=>?_;refine sh 2 fun Zgw=>?_;refine st 3 ?_;exact sI ho▸rt (fun _ h=>sQ [1,4] (St.Vk h 1 rfl see)) (rs:=[.cell 6 255]) (vs:=[.agg #[v29,v30]]) (hv:=⟨Xp.Z3T 3 rfl rfl Tryz.underlying255 rfl ZjO.h,trivial⟩) (hk:=fun a b p s=>⟨_,_,rfl,⟨em,_,Dj.YM _,Sub.em _,Sub.refl _,p.get 0 rfl,s⟩⟩)
 refine SP.val (Val.max2 rfl rfl) rfl rfl rfl ?_;obtain⟨hz,ho⟩:=Xn ho;refine SP.Z8P see 7 rfl Tryz.underlying31 Tj.h rfl rfl hz rfl rfl (fun v35=>?_);clear hz;refine k1 V3.ok ho fun t37 ho v38=>?_;refine li (h:=fun _=>id) kb [0] fun v40=>?_;refine go ?_;refine CP.join (fun a w2=>∃Z98:List Zi,∃Z99:List Int,∃Z9a:List Int,∃ZbE:Value,∃ZbF:Value,ZR.j1 Xz XA Xw YD XE X3 Yg Yl Ym Yn Yo YU YZ WO YE Wv Z98 Z99 Z9a=some r∧Env ⟨106,[]⟩ [(6,pt KM),(7,pt b33)] a∧St w hA hV [Z9 kb ZbE Z99,Z9 Z4 XQ Xz,Z9 Z4 XR XA,Z9 Zd XT Xw,Z9 kb XU XE,Z9 kb Xk X3,Z9 Z8 Xl YU,Z9 kb Xm YZ] [Zg kb 5 ZbF Z9a,WT ZP b1 [XQ,XR,XT,i6 YD,XU,Xk,i8 Yg,.bool Yl,i6 Ym,i6 Yn,i6 Yo,Xl,Xm] 200 Z98 [] 122,Zl b33 [ZbE,ZbF] 255,Zl KM [nl,nl] 255] w2) ?_ ?_
 ·rintro a w2 ⟨Z98,Z99,Z9a,ZbE,ZbF,ho,ha,hw⟩;refine CP.app ha hw ?_;clear ha hw a w2;refine gg ?_;refine sp (h:=id) 0 fun ZvP=>?_;refine sh 0 fun ZvQ=>?_;refine st 3 ?_;exact sI ho▸rt (sO [0,1]) (rs:=[.cell 6 255]) (vs:=[.agg #[ZbE,ZbF]]) (hv:=⟨Xp.Z3T 3 rfl rfl Tryz.underlying255 rfl ZjO.h,trivial⟩) (hk:=fun a b p s=>⟨_,_,rfl,⟨em,_,Dj.YM _,Sub.em _,Sub.refl _,p.get 0 rfl,s⟩⟩)
 refine go ?_;refine CP.join (fun a w2=>∃Z7w:List Int,∃ZbG:Value,ZR.j2 Xz XA Xw YD XE X3 Yg Yl Ym Yn Yo YU YZ WO YE Wv t28 Z7w=some r∧Env ⟨106,[]⟩ [(6,pt KM),(7,pt b33),(10,v40)] a∧St w hA hV [Z9 Z4 XQ Xz,Z9 Z4 XR XA,Z9 Zd XT Xw,Z9 kb XU XE,Z9 kb Xk X3,Z9 Z8 Xl YU,Z9 kb Xm YZ] [Zg kb 5 ZbG Z7w,Zg kb 5 v40 [0],Zl b33 [v29,ZbG] 255,Zg kb 5 v29 t28.1.Takes,Zl KM [nl,nl] 255,WT ZP b1 [XQ,XR,XT,i6 YD,XU,Xk,i8 Yg,.bool Yl,i6 Ym,i6 Yn,i6 Yo,Xl,Xm] 200 WO [] 122] w2) ?_ ?_
 ·rintro a w2 ⟨Z7w,ZbG,ho,ha,hw⟩;refine CP.app ha hw ?_;clear ha hw a w2;refine gg ?_;refine sh 1 fun ZxO=>?_;refine st 2 ?_;exact QE.meet fun a w2 ha hw=>⟨WO,[0],Z7w,v40,ZbG,ho,ha.sub sb,(sQ [0,4,1,3] (St.Vk hw 1 rfl see))⟩
 refine go ?_;refine CP.seq ?_;refine go ?_;refine CP.seq ?_;refine go ?_;refine CP.seq ?_;refine go ?_;refine CP.seq ?_;refine go ?_;refine CP.seq ?_;refine go ?_;refine CP.seq ?_;refine go ?_;refine CP.seq ?_;refine CP.seq ?_;refine CP.join (fun a w2=>∃b42:Bool,ZR.j3 Xz XA Xw YD XE X3 Yg Yl Ym Yn Yo YU YZ WO YE Wv t28 t37 b42=some r∧Env ⟨106,[]⟩ [(0,pt b1),(4,pt b24),(6,pt KM),(7,pt b33),(9,v38),(10,v40),(28,i8 YE.Op),(29,.bool b42)] a∧St w hA hV [Z9 Z4 XQ Xz,Z9 Z4 XR XA,Z9 Zd XT Xw,Z9 kb XU XE,Z9 kb Xk X3,Z9 Z8 Xl YU,Z9 kb Xm YZ] [Zg kb 5 v40 [0],Zg kb 5 v38 t37,Zl b33 [v29,v30] 255,Zg kb 5 v29 t28.1.Takes,Zg kb 5 v30 t28.1.Gives,Zl KM [nl,nl] 255,Zl b24 [i8 YE.Op,i6 YE.A,i6 YE.B] 43,WT ZP b1 [XQ,XR,XT,i6 YD,XU,Xk,i8 Yg,.bool Yl,i6 Ym,i6 Yn,i6 Yo,Xl,Xm] 200 WO [] 122] w2) ?_ ?_;rotate_left
 ·refine gg ?_;refine ci ho (fun ho=>?_) fun ho=>?_
  ·exact QE.meet fun a w2 ha hw=>⟨(decide (YE.Op=1)),ho,ha.sub sb,(St.V5 [1,2,3,4,5,6,7] rfl hw)⟩
  refine ci ho (fun ho=>?_) fun ho=>?_
  ·exact QE.meet fun a w2 ha hw=>⟨(decide (YE.Op=2)),ho,ha.sub sb,(St.V5 [1,2,3,4,5,6,7] rfl hw)⟩
  exact QE.meet fun a w2 ha hw=>⟨(decide (YE.Op=4)),ho,ha.sub sb,(St.V5 [1,2,3,4,5,6,7] rfl hw)⟩
 rintro a w2 ⟨b42,ho,ha,hw⟩;refine CP.app ha hw ?_;clear ha hw a w2;refine cb (hf:=id) ho (fun ho=>?_) fun ho=>?_
 ·refine so [7,0,1,2,3,4,5,6] ?_;obtain⟨t43,hc,ho⟩:=bind_some ho;refine SP.Wy see (caps:=[]) _ ZjS.h rfl rfl rfl rfl (fun w2 hP h1 sub s1 d1 ap hI=>Wu.ok _ _ _ _ _ _ _ _ _ _ _ _ _ _ _ _ _ _ _ _ _ _ _ hc w2 hP sub (ap.get 0 rfl) (ap.get 1 rfl) (ap.get 2 rfl) (ap.get 3 rfl) (ap.get 4 rfl) (ap.get 5 rfl) (ap.get 6 rfl) _ h1 s1 d1 hI) (SP.k0 ?_);clear hc;refine li kb [t43.1] fun v44=>?_;refine sh 0 fun ZxP=>?_;refine st 4 ?_;exact QE.meet fun a w2 ha hw=>⟨t43.2,t28.1.Takes,[t43.1],v29,v44,ho,ha.sub sb,(sQ [0,1,4,6] (St.Vk hw 5 rfl see))⟩
 refine go ?_;refine CP.seq ?_;refine CP.join (fun a w2=>∃b46:Bool,ZR.j4 Xz XA Xw YD XE X3 Yg Yl Ym Yn Yo YU YZ WO YE Wv t28 t37 b46=some r∧Env ⟨106,[]⟩ [(0,pt b1),(4,pt b24),(6,pt KM),(7,pt b33),(9,v38),(10,v40),(28,i8 YE.Op),(33,.bool b46)] a∧St w hA hV [Z9 Z4 XQ Xz,Z9 Z4 XR XA,Z9 Zd XT Xw,Z9 kb XU XE,Z9 kb Xk X3,Z9 Z8 Xl YU,Z9 kb Xm YZ] [Zg kb 5 v40 [0],Zg kb 5 v38 t37,Zl b33 [v29,v30] 255,Zg kb 5 v29 t28.1.Takes,Zg kb 5 v30 t28.1.Gives,Zl KM [nl,nl] 255,Zl b24 [i8 YE.Op,i6 YE.A,i6 YE.B] 43,WT ZP b1 [XQ,XR,XT,i6 YD,XU,Xk,i8 Yg,.bool Yl,i6 Ym,i6 Yn,i6 Yo,Xl,Xm] 200 WO [] 122] w2) ?_ ?_;rotate_left
 ·refine gg ?_;refine ci ho (fun ho=>?_) fun ho=>?_
  ·exact QE.meet fun a w2 ha hw=>⟨(decide (YE.Op=3)),ho,ha.sub sb,hw⟩
  exact QE.meet fun a w2 ha hw=>⟨(decide (YE.Op=5)),ho,ha.sub sb,hw⟩
 rintro a w2 ⟨b46,ho,ha,hw⟩;refine CP.app ha hw ?_;clear ha hw a w2;refine cb ho (fun ho=>?_) fun ho=>?_
 ·refine so [7,0,1,2,3,4,5,6] ?_;obtain⟨t47,hc,ho⟩:=bind_some ho;refine SP.Wy see (caps:=[]) _ ZjS.h rfl rfl rfl rfl (fun w2 hP h1 sub s1 d1 ap hI=>Wu.ok _ _ _ _ _ _ _ _ _ _ _ _ _ _ _ _ _ _ _ _ _ _ _ hc w2 hP sub (ap.get 0 rfl) (ap.get 1 rfl) (ap.get 2 rfl) (ap.get 3 rfl) (ap.get 4 rfl) (ap.get 5 rfl) (ap.get 6 rfl) _ h1 s1 d1 hI) (SP.k0 ?_);clear hc;refine li kb [t47.1] fun v48=>?_;refine sh 0 fun ZmQ=>?_;refine st 4 ?_;exact QE.meet fun a w2 ha hw=>⟨t47.2,[t47.1],t28.1.Gives,v48,v30,ho,ha.sub sb,(sQ [5,0,3,6] (St.Vk hw 0 rfl see))⟩
 refine ci ho (fun ho=>?_) fun ho=>?_;rotate_left
 ·refine ci ho (fun ho=>?_) fun ho=>?_
  ·refine SP.val (Val.JW see 7 rfl Tryz.underlying5 rfl rfl rfl) rfl rfl rfl ?_;refine li kb [Yg] fun Zs5=>?_;refine sh 0 fun ZvR=>?_;refine st 3 ?_;exact QE.meet fun a w2 ha hw=>⟨WO,[Yg],t28.1.Gives,Zs5,v30,ho,ha.sub sb,(sQ [4,7,2,5] (St.Vk hw 0 rfl see))⟩
  refine ci ho (fun ho=>?_) fun ho=>?_
  ·refine sh 1 fun Zmv=>?_;refine st 2 ?_;refine so [1,0,2,3,4,5,6,7] ?_;obtain⟨hb,ho⟩:=Xn ho;refine SP.Wy see (caps:=[]) (fun r=>HO.Yr (r=.tuple #[]) (HO.Yk [Zg kb 5 v38 t37.reverse])) Zpj.h rfl rfl rfl rfl (fun w2 hP h1 sub s1 d1 ap hI=>Z97 hb sub s1 d1 hI) (SP.k0 ?_);clear hb;refine gg ?_;refine li (h:=fun _=>id) kb [0] fun ZAx=>?_;refine fz 0 ?_;refine ap 1 0 ho fun Zs6 ho=>?_;refine sh 1 fun ZvS=>?_;refine st 2 ?_;exact QE.meet fun a w2 ha hw=>⟨WO,([0] ++ [0]),t37.reverse,Zs6,v38,ho,ha.sub sb,(St.V5 [0,2,3,4,5,6,7,8] rfl (sQ [0,6,1,4] (St.Vk hw 1 rfl see)))⟩
  refine ci ho (fun ho=>?_) fun ho=>?_;rotate_left
  ·exact QE.meet fun a w2 ha hw=>⟨t28.1.Gives,v30,ho,ha.sub sb,(sQ [4,0,2,3,5,7] hw)⟩
  refine ci ho (fun ho=>?_) fun ho=>?_
  ·refine fz 1 ?_;obtain⟨hz,ho⟩:=Xn ho;refine SP.Z8P see 0 rfl Tryz.underlying31 Tj.h rfl rfl hz rfl rfl (fun ZAy=>?_);clear hz;refine k1 ZU.ok ho fun Zfi ho Zs7=>?_;refine sh 0 fun ZvT=>?_;refine st 2 ?_;exact QE.meet fun a w2 ha hw=>⟨Zfi,Zs7,ho,ha.sub sb,(St.V5 [2,3,4,5,6,7,8] rfl (sQ [0,1,2,3,5,7] hw))⟩
  exact QE.meet fun a w2 ha hw=>⟨t28.1.Gives,v30,ho,ha.sub sb,(sQ [4,0,2,3,5,7] hw)⟩
 refine dr ?_;refine ge 2 ho fun x52 ho p50 Zfj=>?_;refine DA.ghost (fun w2 h=>h.Jv see 0 rfl Zd.Z6w) (fun p53 Zs8=>?_);refine DA.ghost (fun w2 h=>h.Z1W see 0 rfl (fun(v55:Value)=>[v55]) (fun(v55:Value)=>[Z9 kb v55 x52.Args]) (fun h cs ⟨v55,e,p0⟩=>⟨v55,e,All.cons p0 (All.nil _)⟩)) (fun z_ _=>?_)
 rename Value=>v55
 refine ge 6 ho fun KU ho p58 Zs9=>?_;refine DA.ghost (fun w2 h=>h.Jv see 0 rfl Zd.Z7R) (fun p61 Z9b=>?_);refine gu 0 ?_;refine(DA.phase (fun i=>Nat.ble 0 i&&Nat.blt i 23) (fun w2=>St w hA hV [atP p61 [i8 KU.Result],U8 kb p61 KU.Result,U8 Zd p58 KU,atP p53 [v55],Z9 kb v55 x52.Args,U8 (TK kb) p53 x52.Args,U8 Zd p50 x52,Z9 Z4 XQ Xz,Z9 Z4 XR XA,Z9 Zd XT Xw,Z9 kb XU XE,Z9 kb Xk X3,Z9 Z8 Xl YU,Z9 kb Xm YZ] [Zg kb 5 v40 [0],Zg kb 5 v38 t37,Zg kb 5 v29 t28.1.Takes,Zg kb 5 v30 t28.1.Gives,Zl KM [nl,nl] 255,Zl b24 [i8 YE.Op,i6 YE.A,i6 YE.B] 43,WT ZP b1 [XQ,XR,XT,i6 YD,XU,Xk,i8 Yg,.bool Yl,i6 Ym,i6 Yn,i6 Yo,Xl,Xm] 200 WO [] 122] w2) ?_);refine ts 0 [0,1,3,4,5,6,7] ?_;refine ts 1 [0,1,3,4,5,6,7] ?_;refine ts 2 [0,1,3,4,5,6,7] ?_;refine ts 3 [0,1,3,4,5,6,7] ?_;refine DT.ts 4 rfl (Val.JW see 6 rfl Tryz.underlying23 rfl rfl rfl) (fun w2 hw=>(sQ [0,1,3,4,5,6,7] hw)) ?_;refine ts 5 [0,1,3,4,5,6,7] ?_;refine ts 6 [0,1,3,4,5,6,7] ?_;refine DT.ts 7 rfl (Val.ie rfl rfl Zfj) (sO [0,1,3,4,5,6,7]) ?_;refine DT.ts 8 rfl (Val.fe rfl Zs8) (sO [0,1,3,4,5,6,7]) ?_;refine ts 9 [0,1,3,4,5,6,7] ?_;refine ts 10 [0,1,3,4,5,6,7] ?_;refine ts 11 [0,1,3,4,5,6,7] ?_;refine ts 12 [0,1,3,4,5,6,7] ?_;refine ts 13 [0,1,3,4,5,6,7] ?_;refine DT.ts 14 rfl (Val.JW see 6 rfl Tryz.underlying23 rfl rfl rfl) (fun w2 hw=>(sQ [0,1,3,4,5,6,7] hw)) ?_;refine ts 15 [0,1,3,4,5,6,7] ?_;refine ts 16 [0,1,3,4,5,6,7] ?_;refine DT.ts 17 rfl (Val.ie rfl rfl Zs9) (sO [0,1,3,4,5,6,7]) ?_;refine DT.ts 18 rfl (Val.fe rfl Z9b) (sO [0,1,3,4,5,6,7]) ?_;refine ts 19 [0,1,3,4,5,6,7] ?_;refine ts 21 [0,1,3,4,5,6,7] ?_;refine DT.list (l2 := #[true,true,true,true,true,true,true,true,true,true,true,true,true,true,true,true,true,true,true,true,false,true,false,false,false]) (by kernel_rfl) ?_;refine DT.cut (ι:=Value) (fun z=>[(6,pt KM),(7,pt b33),(74,z)]) (fun z w2=>St w hA hV [atP p61 [i8 KU.Result],U8 kb p61 KU.Result,U8 Zd p58 KU,atP p53 [v55],Z9 kb v55 x52.Args,U8 (TK kb) p53 x52.Args,U8 Zd p50 x52,Z9 Z4 XQ Xz,Z9 Z4 XR XA,Z9 Zd XT Xw,Z9 kb XU XE,Z9 kb Xk X3,Z9 Z8 Xl YU,Z9 kb Xm YZ] [Zg kb 5 z [KU.Result],Zg kb 5 v40 [0],Zg kb 5 v38 t37,Zl b33 [v55,v30] 255,Zg kb 5 v29 t28.1.Takes,Zg kb 5 v30 t28.1.Gives,Zl KM [nl,nl] 255,Zl b24 [i8 YE.Op,i6 YE.A,i6 YE.B] 43,WT ZP b1 [XQ,XR,XT,i6 YD,XU,Xk,i8 Yg,.bool Yl,i6 Ym,i6 Yn,i6 Yo,Xl,Xm] 200 WO [] 122] w2) 2 #[true,true,true,true,true,true,true,true,true,true,true,true,true,true,true,true,true,true,true,true,true,true,true,false,false] (fun z=>?_) (fun Zk3=>?_)
 ·rename Value=>Z5T
  refine dn ?_;refine d1 23 ?_;refine d1 (h:=id) 24 ?_;refine sh 0 fun ZvU=>?_;refine st 3 ?_;refine dz ?_;exact QE.meet fun a w2 ha hw=>⟨WO,x52.Args,[KU.Result],v55,Z5T,ho,ha.sub sb,(St.V5 [4,7,8,9,10,11,12,13] rfl (sQ [0,8,3,6] hw))⟩
 refine DT.cut (ι:=Value) (fun z=>[(6,pt KM),(7,pt b33),(63,v55),(74,z),(75,pt b33)]) (fun z w2=>St w hA hV [atP p61 [i8 KU.Result],U8 kb p61 KU.Result,U8 Zd p58 KU,atP p53 [v55],Z9 kb v55 x52.Args,U8 (TK kb) p53 x52.Args,U8 Zd p50 x52,Z9 Z4 XQ Xz,Z9 Z4 XR XA,Z9 Zd XT Xw,Z9 kb XU XE,Z9 kb Xk X3,Z9 Z8 Xl YU,Z9 kb Xm YZ] [Zg kb 5 z [KU.Result],Zg kb 5 v40 [0],Zg kb 5 v38 t37,Zl b33 [v29,v30] 255,Zg kb 5 v29 t28.1.Takes,Zg kb 5 v30 t28.1.Gives,Zl KM [nl,nl] 255,Zl b24 [i8 YE.Op,i6 YE.A,i6 YE.B] 43,WT ZP b1 [XQ,XR,XT,i6 YD,XU,Xk,i8 Yg,.bool Yl,i6 Ym,i6 Yn,i6 Yo,Xl,Xm] 200 WO [] 122] w2) 3 #[true,true,true,true,true,true,true,true,true,true,true,true,true,true,true,true,true,true,true,true,true,true,false,false,false] (fun z=>?_) (fun Zsa=>?_)
 ·rename Value=>Z5T
  refine DT.one 22 rfl (by kernel_rfl) rfl ?_;refine sp 4 fun ZmR=>?_;refine st 3 ?_;refine QE.Vq (fun w2 hw=>(sQ [1,2,4,5,6,7,8] hw)) ?_;refine DT.list (l2 := #[true,true,true,true,true,true,true,true,true,true,true,true,true,true,true,true,true,true,true,true,true,true,true,false,false]) (by kernel_rfl) ?_;exact DT.weak (by exact⟨rfl,rfl,rfl,trivial⟩) (by exact fun w2 hw=>hw) (Zk3 Z5T)
 refine DT.cut (ι:=Unit) (fun z=>[(6,pt KM),(7,pt b33),(73,i8 KU.Result)]) (fun z w2=>St w hA hV [atP p61 [i8 KU.Result],U8 kb p61 KU.Result,U8 Zd p58 KU,atP p53 [v55],Z9 kb v55 x52.Args,U8 (TK kb) p53 x52.Args,U8 Zd p50 x52,Z9 Z4 XQ Xz,Z9 Z4 XR XA,Z9 Zd XT Xw,Z9 kb XU XE,Z9 kb Xk X3,Z9 Z8 Xl YU,Z9 kb Xm YZ] [Zg kb 5 v40 [0],Zg kb 5 v38 t37,Zl b33 [v55,v30] 255,Zg kb 5 v29 t28.1.Takes,Zg kb 5 v30 t28.1.Gives,Zl KM [nl,nl] 255,Zl b24 [i8 YE.Op,i6 YE.A,i6 YE.B] 43,WT ZP b1 [XQ,XR,XT,i6 YD,XU,Xk,i8 Yg,.bool Yl,i6 Ym,i6 Yn,i6 Yo,Xl,Xm] 200 WO [] 122] w2) 3 #[true,true,true,true,true,true,true,true,true,true,true,true,true,true,true,true,true,true,true,true,false,true,true,false,false] (fun z=>?_) (fun Zsb=>?_)
 ·refine DT.one 20 rfl (by kernel_rfl) rfl ?_;refine li kb [KU.Result] fun Z5T=>?_;refine QE.Vq (fun w2 hw=>(sQ [1,2,4,5,6,7,8] hw)) ?_;refine DT.list (l2 := #[true,true,true,true,true,true,true,true,true,true,true,true,true,true,true,true,true,true,true,true,true,true,true,false,false]) (by kernel_rfl) ?_;exact DT.weak (by exact⟨rfl,rfl,rfl,trivial⟩) (by exact fun w2 hw=>hw) (Zk3 Z5T)
 refine DT.any 20 [22] (by kernel_rfl) ⟨⟨_,rfl,rfl,?_⟩,⟨_,rfl,rfl,?_⟩,trivial⟩
 ·refine li kb [KU.Result] fun Z5T=>?_;refine QE.Vq (fun w2 hw=>(sQ [1,2,4,5,6,7,8] hw)) ?_;refine DT.list (l2 := #[true,true,true,true,true,true,true,true,true,true,true,true,true,true,true,true,true,true,true,true,true,true,false,false,false]) (by kernel_rfl) ?_;exact DT.weak (by exact⟨rfl,rfl,rfl,rfl,rfl,trivial⟩) (by exact fun w2 hw=>hw) (Zsa Z5T)
 refine sp 4 fun ZmR=>?_;refine st 2 ?_;refine QE.Vq (fun w2 hw=>(sQ [0,1,3,4,5,6,7] hw)) ?_;refine DT.list (l2 := #[true,true,true,true,true,true,true,true,true,true,true,true,true,true,true,true,true,true,true,true,false,true,true,false,false]) (by kernel_rfl) ?_;exact DT.weak (by exact⟨rfl,rfl,rfl,trivial⟩) (by exact fun w2 hw=>hw) (Zsb ())
inductive Xq.S where
  |start
  |l1 (t26:WY×(List Zi)) (KU:Int)
def Xq.F(Xz XA:List Zp)(Xw:List Zb)(YD:Int)(XE X3:List Int)(Yg:Int)(Yl:Bool)(Ym Yn Yo:Int)(YU:List Z7)(YZ:List Int)(WO:List Zi)(YE:Z7)(Wv:List Int):Xq.S→Option (Xq.S⊕(((List Int)×Int)×(List Zi)))
  | .start=>(ZR.f Xz XA Xw YD XE X3 Yg Yl Ym Yn Yo YU YZ WO YE Wv).bind fun t26=>if(IntKind.i64.wrap ((Wv.length:Int)-(t26.1.Takes.length:Int)))<0 then(some (.inr (([],101),t26.2)))else(some (.inl (.l1 t26 0)))
  | .l1 t26 KU=>if KU<(t26.1.Takes.length:Int)then((elt t26.1.Takes KU).bind fun x64=>(if x64≠0 then((elt Wv (IntKind.i64.wrap ((IntKind.i64.wrap ((Wv.length:Int)-(t26.1.Takes.length:Int)))+KU))).bind fun x69=>some (decide (x64≠x69)))else(some false)).bind fun t70=>if t70=true then(some (.inr (([],100),t26.2)))else(some (.inl (.l1 t26 (IntKind.i64.wrap (KU+1))))))else(if(0:Int)≤(IntKind.i64.wrap ((Wv.length:Int)-(t26.1.Takes.length:Int)))∧(IntKind.i64.wrap ((Wv.length:Int)-(t26.1.Takes.length:Int)))≤(Wv.length:Int)then((ZL.f [(Wv.take (IntKind.i64.wrap ((Wv.length:Int)-(t26.1.Takes.length:Int)):Int).toNat),t26.1.Gives]).bind fun t84=>some (.inr ((t84,0),t26.2)))else none)
def Xq.f(Xz XA:List Zp)(Xw:List Zb)(YD:Int)(XE X3:List Int)(Yg:Int)(Yl:Bool)(Ym Yn Yo:Int)(YU:List Z7)(YZ:List Int)(WO:List Zi)(YE:Z7)(Wv:List Int):Option (((List Int)×Int)×(List Zi)):=Zw (Xq.F Xz XA Xw YD XE X3 Yg Yl Ym Yn Yo YU YZ WO YE Wv) .start
theorem Xq.ok(Xz XA:List Zp)(Xw:List Zb)(YD:Int)(XE X3:List Int)(Yg:Int)(Yl:Bool)(Ym Yn Yo:Int)(YU:List Z7)(YZ:List Int)(WO:List Zi)(YE:Z7)(Wv:List Int)(XQ XR XT XU Xk Xl Xm Z32:Value)(r:((List Int)×Int)×(List Zi))(H:Xq.f Xz XA Xw YD XE X3 Yg Yl Ym Yn Yo YU YZ WO YE Wv=some r)(w:World)(hV:Hp)(sV:Sub hV (hp w))(h0:Xb Z4 hV XQ Xz)(h1:Xb Z4 hV XR XA)(h2:Xb Zd hV XT Xw)(h3:Xb kb hV XU XE)(h4:Xb kb hV Xk X3)(h5:Xb Z8 hV Xl YU)(h6:Xb kb hV Xm YZ)(h7:Xb kb hV Z32 Wv)(b1:Nat)(hA:Hp)(sA:Sub hA (hp w))(dA:Dj hV hA)(hI:(WT ZP b1 [XQ,XR,XT,i6 YD,XU,Xk,i8 Yg,.bool Yl,i6 Ym,i6 Yn,i6 Yo,Xl,Xm] 200 WO [] 122).p hV hA) :
    XL Tryz.prog 136 [pt b1,.agg #[i8 YE.Op,i6 YE.A,i6 YE.B],Z32].toArray hA hV w (fun v=>HO.ex fun u0:Value=>HO.Yr (v=.tuple #[u0,i6 r.1.2]) (HO.Yk [Zg kb 5 u0 r.1.1,WT ZP b1 [XQ,XR,XT,i6 YD,XU,Xk,i8 Yg,.bool Yl,i6 Ym,i6 Yn,i6 Yo,Xl,Xm] 200 r.2 [] 122])):=by
 have see:YG w hA hV:=⟨sV,dA⟩
 refine XL.of (P:=Tryz.prog) (n:=⟨52,[]⟩) Tryz.func136 rfl ⟨rfl,rfl⟩ rfl (St.K6 (os:=[WT ZP b1 [XQ,XR,XT,i6 YD,XU,Xk,i8 Yg,.bool Yl,i6 Ym,i6 Yn,i6 Yo,Xl,Xm] 200 WO [] 122]) sA (aS h0 (aS h1 (aS h2 (aS h3 (aS h4 (aS h5 (aS h6 (aS h7 (All.nil _))))))))) ⟨hA,em,Dj.WM _,Sub.refl _,Sub.em _,hI,trivial⟩) ?_;obtain⟨m0,o,ho,hr⟩:=rn H;refine gg ?_;refine bx fun b24=>?_;refine so [1,0] ?_;obtain⟨t26,hc,ho⟩:=bind_some ho;refine SP.Wy see (caps:=[]) _ Zpk.h rfl rfl rfl rfl (fun w2 hP h1 sub s1 d1 ap hI=>ZR.ok _ _ _ _ _ _ _ _ _ _ _ _ _ _ _ _ _ _ _ _ _ _ _ _ _ hc w2 hP sub (ap.get 0 rfl) (ap.get 1 rfl) (ap.get 2 rfl) (ap.get 3 rfl) (ap.get 4 rfl) (ap.get 5 rfl) (ap.get 6 rfl) (ap.get 7 rfl) _ h1 s1 d1 hI) (SP.k2 fun v27 v28=>?_);refine SP.imp (fun w2 h=>St.toP 0 rfl h) ?_;clear hc;refine al (h:=fun _=>id) fun b31=>?_;refine sp (h:=id) 0 fun Zmu=>?_;refine sh 1 fun ZxQ=>?_;refine st 0 ?_;refine ci ho (fun ho=>?_) fun ho=>?_
 ·exact fin ho hr▸rt (fun _ h=>sQ [0,3] (nO kb 5 h))
 refine lo ho hr (fun z=>∃KU,z (.l1 t26 KU) [(2,Z32),(8,pt b31),(9,i6 (wr ((Wv.length:Int)-(t26.1.Takes.length:Int)))),(25,v27),(26,i6 (t26.1.Takes.length:Int)),(27,i6 KU)] [Zl b31 [v27,v28] 255,Zg kb 5 v28 t26.1.Gives,WT ZP b1 [XQ,XR,XT,i6 YD,XU,Xk,i8 Yg,.bool Yl,i6 Ym,i6 Yn,i6 Yo,Xl,Xm] 200 t26.2 [] 122]) (fun _ z=>⟨0,z⟩) ?_ (sO [0,1,2]) (hb:=pe [Z9 kb v27 t26.1.Takes,Z9 Z4 XQ Xz,Z9 Z4 XR XA,Z9 Zd XT Xw,Z9 kb XU XE,Z9 kb Xk X3,Z9 Z8 Xl YU,Z9 kb Xm YZ,Z9 kb Z32 Wv]);rintro _ _ _ ⟨KU,m61,o,_,_,ho,hr,h⟩;refine en h ?_;refine ci ho (fun ho=>?_) fun ho=>?_
 ·refine ip 0 ho fun x64 ho p62=>?_;obtain⟨t70,ZgR,ho⟩:=bind_some ho;refine sj 9 [2,8,9,25,26,27] 43 ho ?_ ?_
  ·clear ZgR;refine gg ?_;refine cb ho (fun ho=>?_) fun ho=>?_
   ·exact fin ho hr▸rt (fun _ h=>sQ [0,3] (nO kb 5 h))
   exact lw ho hr (fun _ z=>⟨(wr (KU+1)),z⟩)
  refine bi 34 ZgR (fun ZvV ho=>?_) fun ZvV ho=>?_
  ·refine ip 9 ho fun x69 ho p67=>?_;obtain rfl:=sI ho;exact QE.jn fun w2 hw=>(St.V5 [1,2,3,4,5,6,7,8,9,10] rfl hw)
  obtain rfl:=sI ho;exact jn
 refine dr ?_;refine DA.ph 0 5 ?_;refine DT.tk 0 ?_;refine DT.tk 1 ?_;refine DT.tk 3 ?_;refine DT.tk 4 ?_;refine DT.one 2 rfl (by kernel_rfl) rfl ?_;obtain⟨hz,ho⟩:=Xn ho;refine SP.Z8c see 8 rfl Tryz.underlying31 Tj.h rfl rfl hz rfl rfl (fun v80=>?_);clear hz;refine gg ?_;refine QE.Vq (fun w2 hw=>(St.V5 [1,2,3,4,5,6,7,8,9] rfl hw)) ?_;refine dn ?_;refine d1 (h:=id) 5 ?_;refine fz 1 ?_;refine SP.Z9N (k:=(TK kb)) (xs:=[(Wv.take (wr ((Wv.length:Int)-(t26.1.Takes.length:Int)):Int).toNat),t26.1.Gives]) (vs:=[v80,v28]) Tryz.underlying191 Zbs.h rfl rfl rfl rfl rfl rfl (fun _ ap=>⟨Xb.Z1O (ap.get 1 rfl),Xb.Z1O (ap.get 0 rfl),trivial⟩) (fun _ ap=>⟨[v80],_,rfl,⟨_,rfl,ap.get 1 rfl⟩,⟨[v28],_,rfl,⟨_,rfl,ap.get 0 rfl⟩,rfl⟩⟩) rfl rfl rfl (fun v82=>gg ?_);refine d1 6 ?_;obtain⟨t84,hc,ho⟩:=bind_some ho;refine SP.Z1M see (caps:=[]) _ Zf0.h rfl rfl rfl rfl (fun w2 hs=>ZL.ok _ hc w2 (hp w2) (Sub.refl _) (aS (Zg.read (St.own 0 rfl see.sub see.dj hs) (Sub.refl _) (Sub.refl _)) (All.nil _))) (fun v a a2 b ⟨v85,e,h⟩=>⟨v85,e,(Sep.Z3U (fun _=>Zg.flip (fun _ _ _ _ h=>h)) (fun _=>Sep.Z5E)) h⟩) (SP.k1 fun v85=>?_);clear hc;refine gg ?_;refine d1 7 ?_;refine d1 8 ?_;refine dz ?_;exact fin ho hr▸rt (sO [0,3])
def Z49.f(Zn:Int):Option Bool:=
  (TQ.f Zn).bind fun t1=>some (((t1&&(decide (Zn≠26)))&&(decide (Zn≠31)))&&(decide (Zn≠32)))
theorem Z49.ok{Zn}(r)(ho:Z49.f Zn=some r):Ok Tryz.prog 200 [i8 Zn] [] fun v=>HO.pure (v=.bool r):=by
 refine oq 17 Tryz.func200 fun w hV see pb=>?_;refine kv TQ.ok ho fun t1 ho=>?_;refine SP.jn 3 [0] 8 (.bool (t1&&(decide (Zn≠26)))) ?_ ?_;rotate_left
 ·refine bb 5 (fun hq3=>?_) fun hq3=>?_
  ·exact jb (WH hq3 rfl)
  exact jb (WI hq3)
 refine gg ?_;refine SP.jn 3 [0] 12 (.bool ((t1&&(decide (Zn≠26)))&&(decide (Zn≠31)))) ?_ ?_
 ·refine gg ?_;refine SP.jn 3 [] 16 (.bool (((t1&&(decide (Zn≠26)))&&(decide (Zn≠31)))&&(decide (Zn≠32)))) ?_ ?_
  ·refine gg ?_;exact sI ho▸rt
  refine bb 13 (fun VP=>?_) fun VP=>?_
  ·exact jb (WH VP rfl)
  exact jb (WI VP)
 refine bb 9 (fun UF=>?_) fun UF=>?_
 ·exact jb (WH UF rfl)
 exact jb (WI UF)
def Z33.f(Zn:Int):Option Bool:=
  (Us.f Zn).bind fun t1=>some (decide (t1=5))
theorem Z33.ok{Zn}(r)(ho:Z33.f Zn=some r):Ok Tryz.prog 201 [i8 Zn] [] fun v=>HO.pure (v=.bool r):=by
 refine oq 6 Tryz.func201 fun w hV see pb=>?_;refine kv Us.ok ho fun t1 ho=>?_;exact sI ho▸rt
shelf_lay_g SlLaysM.n5 Slgm 5 at Tryz 48 as Tryz.sorti48
theorem Z7W{v:Value}{l:List Int}(hll:l.length<4611686018427387904){w:World}{hP h1:Hp}(sub:Sub hP (hp w))(s1:Sub h1 (hp w))(dj:Dj hP h1)(hI:(Zg (Uz .i64) 3 v l).p hP h1) :
    XL Tryz.prog 48 #[v] h1 hP w (fun r=>HO.Yr (r=.tuple #[]) (HO.Yk [Zg (Uz .i64) 3 v (l.mergeSort fun x y=>decide (x≤y))])):=by
  have h:=Zg.Z7n (P:=Tryz.prog) (f:=48) (fun v => #[v]) (fun _ =>.tuple #[]) (fun x=>[Value.int .i64 x]) (fun h cs x=>Iff.rfl) (fun d:Array Int=>(d.toList.mergeSort fun x y=>decide (x≤y)).toArray) (fun d=>by simp) (fun blk cap d w hH hb hsz _ _=>?_) (fun _ w hV sV=>?_) hll sub s1 dj hI
  · simpa using h
  · have:=AnyM.slices_Sort_int Tryz.sorti48 blk 0 cap d.toList w (holdsOne.1 hH) hb (by simpa using hsz)
    refine this.mono fun e w' ⟨h1,n,os,h2⟩=>⟨h1,n,os,h2.trans (Eq.symm Z9L)⟩
  · refine(AnyM.slices_Sort_int_none Tryz.sorti48 none 0 w).mono fun e w' ⟨he,hw⟩=>?_
    subst hw;exact⟨_,he,Met.refl _,fun _ _ e _=>e,em,em,fun _ _ _=>rfl,fun _ _ _=>rfl,Dj.YM _,Sub.em _,Sub.em _,rfl⟩
shelf_lay_g SlLaysN.n43 Slgn 43 at Tryz 49 as Tryz.compacti49
theorem Z4Y{v:Value}{l:List Int}(hll:l.length<4611686018427387904){w:World}{hP h1:Hp}(sub:Sub hP (hp w))(s1:Sub h1 (hp w))(dj:Dj hP h1)(hI:(Zg (Uz .i64) 3 v l).p hP h1) :
    XL Tryz.prog 49 #[v] h1 hP w (fun r=>HO.ex fun u:Value=>HO.Yr (r=u) (HO.Yk [Zg (Uz .i64) 3 u (Lib.compact l)])):=by
  have hle:(Lib.compact l).length≤l.length:=Z8O l;have h:=Zg.Z7n (P:=Tryz.prog) (f:=49) (fun v => #[v]) (fun v=>Z9M v (Lib.compact l).length) (fun x=>[Value.int .i64 x]) (fun h cs x=>Iff.rfl) (fun d:Array Int=>(Lib.compact d.toList++List.replicate (d.size-(Lib.compact d.toList).length) 0).toArray) (fun d=>by have:=Z8O d.toList;simp at this ⊢;omega) (fun blk cap d w hH hb hsz hcap hd=>?_) (fun h0 w hV sV=>?_) hll sub s1 dj hI
  · exact Zg.Zkt (by simp only[List.length_append];omega) (by simp) h
  · have:=AnyG.slices_Compact_int Tryz.compacti49 blk 0 cap d.toList w (holdsOne.1 hH) (by simp;omega) (by simpa using hcap)
    refine this.mono fun e w' ⟨h1,n,h2⟩=>⟨?_,n,#[],h2.trans (Eq.trans ?_ (Eq.symm Z9L))⟩
    · rw[h1,hd];rfl
    · rw[ZaR];simp
  · refine(AnyG.slices_Compact_int_empty Tryz.compacti49 none 0 w).mono fun e w' ⟨he,hw⟩=>?_
    subst hw;exact⟨_,he,Met.refl _,fun _ _ e _=>e,em,em,fun _ _ _=>rfl,fun _ _ _=>rfl,Dj.YM _,Sub.em _,Sub.em _,rfl⟩
def Vg.j2(ZC:List Z7)(a1:Int)(l31:List Int):Option ((List Int)×Int):=
  if l31.length<4611686018427387904 then(if(l31.mergeSort fun x y=>decide (x≤y)).length<4611686018427387904 then(some ((Lib.compact (l31.mergeSort fun x y=>decide (x≤y))),0))else none)else none
def Vg.j1(ZC:List Z7)(a1:Int)(x9:Z7)(l19:List Int):Option ((List Int)×Int):=
  if x9.Op=29 then(if(l19.length + [IntKind.i64.wrap (x9.A+1)].length)*8≤140737488355328 then(Vg.j2 ZC a1 (l19 ++ [IntKind.i64.wrap (x9.A+1)]))else none)else((Z33.f x9.Op).bind fun t25=>if t25=true then(if(l19.length + [x9.A].length)*8≤140737488355328 then(Vg.j2 ZC a1 (l19 ++ [x9.A]))else none)else(Vg.j2 ZC a1 l19))
def Vg.f(ZC:List Z7)(a1:Int):Option ((List Int)×Int):=
  (UN.f ZC).bind fun t2=>if t2≠0 then(some ([],t2))else(if((decide (a1<0))||(decide (a1≥(ZC.length:Int))))=true then(some ([],2))else((elt ZC a1).bind fun x9=>(Z49.f x9.Op).bind fun t12=>if t12=true then(if(([]:List Int).length + [IntKind.i64.wrap (a1+1)].length)*8≤140737488355328 then(Vg.j1 ZC a1 x9 (([]:List Int) ++ [IntKind.i64.wrap (a1+1)]))else none)else(Vg.j1 ZC a1 x9 [])))
theorem Vg.ok{ZC a1 Yt}(r)(ho:Vg.f ZC a1=some r):Ok Tryz.prog 137 [Yt,i6 a1] [Z9 Z8 Yt ZC,Xi ZY 0 XM] fun v=>HO.ex fun u0:Value=>HO.Yr (v=.tuple #[u0,i6 r.2]) (HO.Yk [Zg ki 3 u0 r.1]):=by
 refine oq 57 Tryz.func137 fun w hV see pb=>?_;refine kv UN.ok ho fun t2 ho=>?_;refine ci ho (fun ho=>?_) fun ho=>?_
 ·exact sI ho▸rt (fun _ h=>sQ [0] (nO ki 3 h))
 refine sj 5 [0,1] 21 ho ?_ ?_;rotate_left
 ·refine bb 16 (fun UF=>?_) fun UF=>?_
  ·exact jb (Vi UF)
  exact jb (Vj UF rfl)
 refine gg ?_;refine cb ho (fun ho=>?_) fun ho=>?_
 ·exact sI ho▸rt (fun _ h=>sQ [0] (nO ki 3 h))
 refine ip 0 ho fun x9 ho p7=>?_;refine ld 0 ?_;refine al fun b10=>?_;refine st (h:=id) 0 ?_;refine go ?_;refine oi r (fun z=>∃l19 v20,z (Vg.j1 ZC a1 x9 l19) [(7,v20),(8,pt b10)] [Zg ki 3 v20 l19,Zl b10 [i8 x9.Op,i6 x9.A,i6 x9.B] 43]) ?_ ?_ (hb:=pe [Xi ZY 0 XM]);rotate_left
 ·refine gg ?_;refine kv Z49.ok ho fun t12 ho=>?_;refine cb ho (fun ho=>?_) fun ho=>?_
  ·refine li (h:=fun _=>id) ki [wr (a1+1)] fun v13=>?_;refine sn ki 3 ?_;refine fz 1 ?_;refine ap 0 0 ho fun v16 ho=>?_;exact mo ho (fun _ z=>⟨(([]:List Int) ++ [wr (a1+1)]),v16,z⟩)
  exact mo ho (fun _ z=>⟨[],nl,z⟩) (fun _ hw=>(nO ki 3 hw))
 rintro _ _ ⟨l19,v20,ho,h⟩;refine en (g:=id) h ?_;refine oi r (fun z=>∃l31 v32,z (Vg.j2 ZC a1 l31) [(7,v32)] [Zg ki 3 v32 l31]) ?_ ?_ (hb:=pe [Xi ZY 0 XM])
 ·rintro _ _ ⟨l31,v32,ho,h⟩;refine en h ?_;obtain⟨hb,ho⟩:=Xn ho;refine SP.Wy see (caps:=[]) (fun r=>HO.Yr (r=.tuple #[]) (HO.Yk [Zg ki 3 v32 (l31.mergeSort fun x y=>decide (x≤y))])) Zm6.h rfl rfl rfl rfl (fun w2 hP h1 sub s1 d1 ap hI=>Z7W hb sub s1 d1 hI) (SP.k0 ?_);clear hb;refine gg ?_;obtain⟨hb,ho⟩:=Xn ho;refine SP.Wy see (caps:=[]) (fun r=>HO.ex fun u:Value=>HO.Yr (r=u) (HO.Yk [Zg ki 3 u (Lib.compact (l31.mergeSort fun x y=>decide (x≤y)))])) Zm7.h rfl rfl rfl rfl (fun w2 hP h1 sub s1 d1 ap hI=>Z4Y hb sub s1 d1 hI) (SP.k1 fun v35=>?_);clear hb;refine gg ?_;exact sI ho▸rt (sO [0])
 refine gg ?_;refine ci ho (fun ho=>?_) fun ho=>?_
 ·refine li (h:=fun _=>id) ki [wr (x9.A+1)] fun v21=>?_;refine fz 0 ?_;refine ap 0 0 ho fun v23 ho=>?_;exact mo ho (fun _ z=>⟨(l19 ++ [wr (x9.A+1)]),v23,z⟩) (sO [0])
 refine kv Z33.ok ho fun t25 ho=>?_;refine cb ho (fun ho=>?_) fun ho=>?_
 ·refine li (h:=fun _=>id) ki [x9.A] fun v26=>?_;refine fz 0 ?_;refine ap 0 0 ho fun v28 ho=>?_;exact mo ho (fun _ z=>⟨(l19 ++ [x9.A]),v28,z⟩) (sO [0])
 exact mo ho (fun _ z=>⟨l19,v20,z⟩) (sO [0])
inductive ZG.S where
  |start
  |l1 (Vh:Int)
def ZG.F(Z5U Z8i:List Int):ZG.S→Option (ZG.S⊕Bool)
  | .start=>if(Z5U.length:Int)≠(Z8i.length:Int)then(some (.inr false))else(some (.inl (.l1 0)))
  | .l1 Vh=>if Vh<(Z5U.length:Int)then((elt Z5U Vh).bind fun WS=>(elt Z8i Vh).bind fun x20=>if WS≠x20 then(some (.inr false))else(some (.inl (.l1 (IntKind.i64.wrap (Vh+1))))))else(some (.inr true))
def ZG.f(Z5U Z8i:List Int):Option Bool:=Zw (ZG.F Z5U Z8i) .start
theorem ZG.ok{Z5U Z8i Zct Zcu}(r)(H:ZG.f Z5U Z8i=some r):Ok Tryz.prog 138 [Zct,Zcu] [Z9 kb Zct Z5U,Z9 kb Zcu Z8i] fun v=>HO.pure (v=.bool r):=by
 refine oq 26 Tryz.func138 fun w hV see pb=>?_;obtain⟨m0,o,ho,hr⟩:=rn H;refine ci ho (fun ho=>?_) fun ho=>?_
 ·exact fin ho hr▸rt
 refine lo ho hr (fun z=>∃Vh,z (.l1 Vh) [(0,Zct),(1,Zcu),(12,i6 (Z5U.length:Int)),(13,i6 Vh)] []) (fun _ z=>⟨0,z⟩) ?_;rintro _ _ _ ⟨Vh,m13,o,_,_,ho,hr,h⟩;refine en h ?_;refine ci ho (fun ho=>?_) fun ho=>?_;rotate_left
 ·exact fin ho hr▸rt
 refine dr ?_;refine ge 0 ho fun WS ho p14 Z3X=>?_;refine gu 0 ?_;refine ge 3 ho fun x20 ho p18 Z3Y=>?_;refine gu 0 ?_;refine DA.ph 0 8 ?_;refine DT.tk 0 ?_;refine DT.tk 1 ?_;refine DT.tv 2 rfl (Val.ie rfl rfl Z3X) ?_;refine tk 3 ?_;refine DT.tk 4 ?_;refine DT.tk 5 ?_;refine DT.tv 6 rfl (Val.ie rfl rfl Z3Y) ?_;refine tk 7 ?_;refine dn ?_;refine d1 8 ?_;refine dz ?_;refine ci ho (fun ho=>?_) fun ho=>?_
 ·exact fin ho hr▸rt
 exact lw ho hr (fun _ z=>⟨(wr (Vh+1)),z⟩)
inductive YR.S where
  |start
  |l1 (t32:((List Int)×Int)×(List Zi)) (t35:(List Int)×Int) (l58:List Zi) (x59:Int)
def YR.F(Xz XA:List Zp)(Xw:List Zb)(YD:Int)(XE X3:List Int)(Yg:Int)(Yl:Bool)(Ym Yn Yo:Int)(YU:List Z7)(YZ:List Int)(WO:List Zi)(a1:Int):YR.S→Option (YR.S⊕(Int×(List Zi)))
  | .start=>(elt WO a1).bind fun x23=>if(!x23.Reached)=true then(some (.inr (0,WO)))else((elt YU a1).bind fun x30=>(Xq.f Xz XA Xw YD XE X3 Yg Yl Ym Yn Yo YU YZ WO x30 x23.Kinds).bind fun t32=>if t32.1.2≠0 then(some (.inr (t32.1.2,t32.2)))else((Vg.f YU a1).bind fun t35=>some (.inl (.l1 t32 t35 t32.2 0))))
  | .l1 t32 t35 l58 x59=>if x59<(t35.1.length:Int)then((elt t35.1 x59).bind fun x62=>(elt l58 x62).bind fun x63=>(if x63.Reached=true then((ZG.f x63.Kinds t32.1.1).bind fun t68=>some (!t68))else(some false)).bind fun t69=>if t69=true then(some (.inr (100,l58)))else(some (.inl (.l1 t32 t35 (l58.set x62.toNat (⟨true,t32.1.1⟩:Zi)) (IntKind.i64.wrap (x59+1))))))else(some (.inr (0,l58)))
def YR.f(Xz XA:List Zp)(Xw:List Zb)(YD:Int)(XE X3:List Int)(Yg:Int)(Yl:Bool)(Ym Yn Yo:Int)(YU:List Z7)(YZ:List Int)(WO:List Zi)(a1:Int):Option (Int×(List Zi)):=Zw (YR.F Xz XA Xw YD XE X3 Yg Yl Ym Yn Yo YU YZ WO a1) .start
theorem YR.ok(Xz XA:List Zp)(Xw:List Zb)(YD:Int)(XE X3:List Int)(Yg:Int)(Yl:Bool)(Ym Yn Yo:Int)(YU:List Z7)(YZ:List Int)(WO:List Zi)(a1:Int)(XQ XR XT XU Xk Xl Xm:Value)  (r:Int×(List Zi))(H:YR.f Xz XA Xw YD XE X3 Yg Yl Ym Yn Yo YU YZ WO a1=some r)(w:World)(hV:Hp)(sV:Sub hV (hp w))(h0:Xb Z4 hV XQ Xz)(h1:Xb Z4 hV XR XA)(h2:Xb Zd hV XT Xw)(h3:Xb kb hV XU XE)(h4:Xb kb hV Xk X3)(h5:Xb Z8 hV Xl YU)(h6:Xb kb hV Xm YZ)(h7:(Xi ZY 0 XM).p hV)(b1:Nat)(hA:Hp)(sA:Sub hA (hp w))(dA:Dj hV hA)(hI:(WT ZP b1 [XQ,XR,XT,i6 YD,XU,Xk,i8 Yg,.bool Yl,i6 Ym,i6 Yn,i6 Yo,Xl,Xm] 200 WO [] 122).p hV hA) :
    XL Tryz.prog 79 [pt b1,i6 a1].toArray hA hV w (fun v=>HO.Yr (v=i6 r.1) (HO.Yk [WT ZP b1 [XQ,XR,XT,i6 YD,XU,Xk,i8 Yg,.bool Yl,i6 Ym,i6 Yn,i6 Yo,Xl,Xm] 200 r.2 [] 122])):=by
 have see:YG w hA hV:=⟨sV,dA⟩
 refine XL.of (P:=Tryz.prog) (n:=⟨79,[]⟩) Tryz.func79 rfl ⟨rfl,rfl⟩ rfl (St.K6 (os:=[WT ZP b1 [XQ,XR,XT,i6 YD,XU,Xk,i8 Yg,.bool Yl,i6 Ym,i6 Yn,i6 Yo,Xl,Xm] 200 WO [] 122]) sA (aS h0 (aS h1 (aS h2 (aS h3 (aS h4 (aS h5 (aS h6 (All.cons (x:=Xi ZY 0 XM) h7 (All.nil _))))))))) ⟨hA,em,Dj.WM _,Sub.refl _,Sub.em _,hI,trivial⟩) ?_;obtain⟨m0,o,ho,hr⟩:=rn H;refine gg ?_;obtain⟨x23,Zcv,ho⟩:=Yu ho;refine SP.val (Val.Zc8 see 0 rfl Tryz.underlying120 Z3g.h Zcv.1 Zcv.2 rfl rfl) rfl rfl rfl ?_;refine SP.ZlN (j:=a1) see 0 (fun(v24:Value)=>[.bool x23.Reached,v24]) (fun(v24:Value)=>[Z9 kb v24 x23.Kinds]) rfl Zcv.2 (fun a cs ⟨v24,e,p0⟩=>⟨v24,e,All.cons p0 (All.nil _)⟩) Tryz.underlying119 rfl Z3g.h rfl rfl rfl (fun z_=>?_)
 rename Value=>v24
 refine al (h:=fun _=>id) fun KM=>?_;refine sp 0 fun ZxR=>?_;refine st 0 ?_;refine cb ho (fun ho=>?_) fun ho=>?_
 ·exact fin ho hr▸rt (sO [1])
 refine dr ?_;refine ge 6 ho fun x30 ho p28 Zsc=>?_;refine gu 0 ?_;refine DA.ph 0 11 ?_;refine DT.tk 0 ?_;refine DT.tk 1 ?_;refine DT.tk 2 ?_;refine DT.tk 3 ?_;refine DT.tk 4 ?_;refine DT.tv 5 rfl (Val.JW see 1 rfl Tryz.underlying32 rfl rfl rfl) ?_;refine DT.tk 6 ?_;refine DT.tv 7 rfl (Val.ie rfl rfl Zsc) ?_;refine tk 8 ?_;refine DT.tk 9 ?_;refine DT.tk 10 ?_;refine dn ?_;refine d1 (h:=id) 11 ?_;refine so [1,0] ?_;obtain⟨t32,hc,ho⟩:=bind_some ho;refine SP.Wy see (caps:=[]) _ Zpl.h rfl rfl rfl rfl (fun w2 hP h1 sub s1 d1 ap hI=>Xq.ok _ _ _ _ _ _ _ _ _ _ _ _ _ _ _ _ _ _ _ _ _ _ _ _ _ hc w2 hP sub (ap.get 3 rfl) (ap.get 4 rfl) (ap.get 5 rfl) (ap.get 6 rfl) (ap.get 7 rfl) (ap.get 8 rfl) (ap.get 9 rfl) (ap.get 2 rfl) _ h1 s1 d1 hI) (SP.k1 fun v33=>?_);clear hc;refine gg ?_;refine d1 12 ?_;refine DA.ph 13 16 ?_;refine DT.tk 13 ?_;refine DT.tk 14 ?_;refine DT.tk 15 ?_;refine dn ?_;refine d1 16 ?_;refine dz ?_;refine ci ho (fun ho=>?_) fun ho=>?_
 ·exact fin ho hr▸rt (sO [1])
 refine SP.val (Val.JW see 1 rfl Tryz.underlying32 rfl rfl rfl) rfl rfl rfl (gg ?_);refine k1 Vg.ok ho fun t35 ho v36=>?_;refine CP.Vk see 1 rfl ?_;refine lo ho hr (fun z=>∃l58 x59,z (.l1 t32 t35 l58 x59) [(0,pt b1),(6,v33),(50,v36),(51,i6 (t35.1.length:Int)),(52,i6 x59)] [Zg ki 3 v36 t35.1,WT ZP b1 [XQ,XR,XT,i6 YD,XU,Xk,i8 Yg,.bool Yl,i6 Ym,i6 Yn,i6 Yo,Xl,Xm] 200 l58 [] 122]) (fun _ z=>⟨t32.2,0,z⟩) ?_ (sO [0,1]) (hb:=pe [Z9 kb v33 t32.1.1,Z9 Z4 XQ Xz,Z9 Z4 XR XA,Z9 Zd XT Xw,Z9 kb XU XE,Z9 kb Xk X3,Z9 Z8 Xl YU,Z9 kb Xm YZ,Xi ZY 0 XM]);rintro _ _ _ ⟨l58,x59,m60,o,_,_,ho,hr,h⟩;refine en h ?_;refine ci ho (fun ho=>?_) fun ho=>?_;rotate_left
 ·exact fin ho hr▸rt (sO [1])
 obtain⟨x62,Zcw,ho⟩:=Yu ho;refine SP.Wo (fun w2 hw=>Zg.whole (St.own 0 rfl see.sub see.dj hw)) Tryz.underlying48 V4.h Zcw.1 Zcw.2 rfl rfl rfl rfl (fun p61 Z9b=>?_);refine SP.val (Val.Vu (off:=0) (k:=ki) (fun w2 hw=>Zg.whole (St.own 0 rfl see.sub see.dj hw)) Zcw.2 Z9b (fun _ _ e=>by subst e;rfl) Tryz.underlying3 rfl rfl) rfl rfl rfl (gg ?_);obtain⟨x63,Z6C,ho⟩:=Yu ho;refine SP.val (Val.Zc8 see 1 rfl Tryz.underlying120 Z3g.h Z6C.1 Z6C.2 rfl rfl) rfl rfl rfl ?_;refine SP.val (Val.assign rfl) rfl rfl rfl ?_;refine SP.nil ?_;refine QE.then ?_
 refine(CP.seq ?_);refine CP.seq ?_;refine CP.region ?_;refine SP.val (Val.move rfl) rfl rfl rfl ?_;refine SP.val (Val.nilCheck rfl) rfl rfl rfl ?_;refine SP.val (Val.Zc9 Tryz.underlying119 rfl sz4.h rfl) rfl rfl rfl ?_;refine SP.val (Val.ZlL (j:=x62) see 1 0 rfl Z6C.2 (fun _ _ ⟨v0_,e,p0_⟩=>by subst e;rfl) Tryz.underlying4 rfl rfl) rfl rfl rfl (gg ?_);obtain⟨t69,ZgT,ho⟩:=bind_some ho;refine sj 8 [0,6,50,51,52,12] 73 ho ?_ ?_
 ·clear ZgT;refine gg ?_;refine cb ho (fun ho=>?_) fun ho=>?_
  ·exact fin ho hr▸rt (sO [1])
  refine sp 0 fun ZgU=>?_;refine bd [.bool true,v33] ?_;refine sp 0 fun ZgU=>?_;refine SP.Zgh (j:=x62) (z0:=(⟨true,t32.1.1⟩:Zi)) (vs:=[.bool true,v33]) see 1 0 rfl Z6C.2 rfl (VD rfl (VD ZgU (rfl))) Z3g.h rfl (fun a cs ap r=>by obtain⟨_,e,_⟩:=r;subst e;exact⟨v33,rfl,(ap.get 0 rfl)⟩) rfl rfl rfl (gg ?_);exact lw ho hr (fun _ z=>⟨(l58.set x62.toNat (⟨true,t32.1.1⟩:Zi)),(wr (x59+1)),z⟩)
 refine bc (ht:=id) 65 ZgT (fun ZvW ho=>?_) fun ZvW ho=>?_
 ·refine SP.val (Val.move rfl) rfl rfl rfl ?_;refine SP.val (Val.nilCheck rfl) rfl rfl rfl ?_;refine SP.val (Val.Zc9 Tryz.underlying119 rfl Jq.h rfl) rfl rfl rfl ?_;refine SP.ZlM (j:=x62) see 1 1 rfl Z6C.2 (fun _ _ ⟨v0_,e,p0_⟩=>⟨v0_,by subst e;rfl,p0_⟩) Tryz.underlying31 rfl rfl rfl (fun v66=>gg ?_);refine kv ZG.ok ho fun t68 ho=>?_;obtain rfl:=sI ho;exact QE.jn fun w2 hw=>(St.V5 [1,2,3,4,5,6,7,8,9] rfl hw)
 obtain rfl:=sI ho;exact jn
def WV.f(s_0:List Zi):Option (List Zi):=
  Z8J s_0 (some []) (if(([]:List Zi).length+s_0.length)*32≤140737488355328 then(some (([]:List Zi)++s_0))else none)
theorem WV.ok{s_0 X4}(r)(ho:WV.f s_0=some r):Ok Tryz.prog 80 [X4] [Z9 ZP X4 s_0] fun v=>HO.ex fun u0:Value=>HO.Yr (v=u0) (HO.Yk [Zg ZP 119 u0 r]):=by
 refine oq 8 Tryz.func80 fun w hV see pb=>?_;refine SP.val (Val.ZjH see 0 rfl Tryz.underlying67 rfl rfl) rfl rfl rfl (gg ?_);refine CP.have (fun w2 hw=>Xb.isNil (v:=X4) (St.Ur 0 rfl see.sub see.dj hw)) (fun hnil=>?_);rcases Bool.eq_false_or_eq_true (Z9I X4)with hc|hc
 ·replace ho:=ZdO ho (hnil hc);refine CP.W9 rfl hc (gg ?_);exact sI ho▸rt (fun _ h=>sQ [0] (nO ZP 119 h))
 replace ho:=ZdP ho;refine CP.K4 rfl hc (gg ?_);refine SP.ZbW (k:=ZP) Tryz.underlying67 Zm4.h rfl rfl (fun v3=>gg ?_);refine ap 0 0 ho fun v5 ho=>?_;exact sI ho▸rt (sO [0])
inductive YF.S where
  |start
  |l1 (Zh:Zb) (Z0c:List Int) (Z5V:List Zi) (Z3Z:Int)
  |l2 (Z3i Z3j:List Zi) (Z1s:Int)
def YF.F(Z0:Zc)(Xo:Int):YF.S→Option (YF.S⊕((List Zi)×Int))
  | .start=>if((decide (Xo<0))||(decide (Xo≥(Z0.Methods.length:Int))))=true then(some (.inr ([],2)))else((elt Z0.Methods Xo).bind fun Zh=>(UN.f Zh.Code).bind fun t20=>if t20≠0 then(some (.inr ([],t20)))else((ZL.f [Zh.Args,Zh.Zk]).bind fun Z0c=>(YT.f Zh.Code Z0.ZA Z0.Pool Z0.Methods Z0.Zo Zh.Args Zh.Zk Zh.Result Zh.Reads Zh.Fuel Zh.Stack Zh.Heap Zh.Code Z0c).bind fun Zfk=>if Zfk=true then(some (.inr ([],100)))else((elt (List.replicate 200 Zi.zero:List Zi) 0).bind fun ZbH=>some (.inl (.l1 Zh Z0c ((List.replicate 200 Zi.zero:List Zi).set (0:Int).toNat ({ ZbH with Reached:=true }:Zi)) 0)))))
  | .l1 Zh Z0c Z5V Z3Z=>if Z3Z<(Zh.Code.length:Int)then((YR.f Z0.ZA Z0.Pool Z0.Methods Z0.Zo Zh.Args Zh.Zk Zh.Result Zh.Reads Zh.Fuel Zh.Stack Zh.Heap Zh.Code Z0c Z5V Z3Z).bind fun Z9c=>if Z9c.1≠0 then(some (.inr ([],Z9c.1)))else(some (.inl (.l1 Zh Z0c Z9c.2 (IntKind.i64.wrap (Z3Z+1))))))else(if(0:Int)≤(Zh.Code.length:Int)∧(Zh.Code.length:Int)≤(200:Nat)then((WV.f (Z5V.take ((Zh.Code.length:Int):Int).toNat)).bind fun Z3i=>some (.inl (.l2 Z3i Z3i 0)))else none)
  | .l2 Z3i Z3j Z1s=>if Z1s<(Z3i.length:Int)then((elt Z3j Z1s).bind fun Zk4=>(V3.f Zk4.Kinds).bind fun ZbI=>(elt Z3j Z1s).bind fun ZbJ=>some (.inl (.l2 Z3i (Z3j.set Z1s.toNat ({ ZbJ with Kinds:=ZbI }:Zi)) (IntKind.i64.wrap (Z1s+1)))))else(some (.inr (Z3j,0)))
def YF.f(Z0:Zc)(Xo:Int):Option ((List Zi)×Int):=Zw (YF.F Z0 Xo) .start
theorem YF.ok{Z0 Xo Z6 Za Z5}(r)(H:YF.f Z0 Xo=some r):Ok Tryz.prog 35 [.agg #[Z6,Za,Z5,i6 Z0.Zo],i6 Xo] [Z9 Z4 Z6 Z0.ZA,Z9 Z4 Za Z0.Pool,Z9 Zd Z5 Z0.Methods,Xi ZY 0 XM] fun v=>HO.ex fun u0:Value=>HO.Yr (v=.tuple #[u0,i6 r.2]) (HO.Yk [Zg ZP 119 u0 r.1]):=by
 refine oq 90 Tryz.func35 fun w hV see pb=>?_;obtain⟨m0,o,ho,hr⟩:=rn H;refine bx fun b4=>?_;refine sj 6 [1,2] 21 ho ?_ ?_;rotate_left
 ·refine bb 15 (fun VP=>?_) fun VP=>?_
  ·exact jb (Vi VP)
  exact jb (Vj VP rfl)
 refine gg ?_;refine cb ho (fun ho=>?_) fun ho=>?_
 ·exact fin ho hr▸rt (fun _ h=>sQ [0] (nO ZP 119 h))
 refine ip 2 ho fun Zh ho p9=>?_;refine Zd.load see 0 rfl Tryz.underlying34 rfl Z3D.h rfl rfl rfl (fun v12 v14 v16=>?_);refine al (h:=fun _=>id) fun b18=>?_;refine sp (h:=id) 0 fun Z5p=>?_;refine sp (h:=id) 1 fun Z9d=>?_;refine sp 2 fun Z6D=>?_;refine st 0 ?_;refine kv UN.ok ho fun t20 ho=>?_;refine ci ho (fun ho=>?_) fun ho=>?_
 ·exact fin ho hr▸rt (fun _ h=>sQ [0] (nO ZP 119 h))
 refine dr ?_;refine DA.ph 0 11 ?_;refine tk 0 ?_;refine tk 1 ?_;refine DT.tk 2 ?_;refine DT.tk 3 ?_;refine DT.tk 4 ?_;refine DT.tk 5 ?_;obtain⟨Z0c,Zcx,ho⟩:=bind_some ho;refine DT.list (l2 := #[true,true,true,true,true,true,false,false,false,false,false,false]) (by kernel_rfl) ?_;refine DT.cut (ι:=Value×Value×Nat×Nat) (fun z=>[(6,pt b18),(8,.pointer (some ⟨z.2.2.2,0,none⟩)),(42,.pointer (some ⟨z.2.2.1,0,none⟩))]) (fun z w2=>St w em hV [Z9 kb v12 Zh.Args,Z9 kb v14 Zh.Zk,Z9 Z8 v16 Zh.Code,U8 Zd p9 Zh,Z9 Z4 Z6 Z0.ZA,Z9 Z4 Za Z0.Pool,Z9 Zd Z5 Z0.Methods,Xi ZY 0 XM] [Zl z.2.2.2 [.pointer none] 116,WT ZP z.2.2.1 [Z6,Za,Z5,i6 Z0.Zo,v12,v14,i8 Zh.Result,.bool Zh.Reads,i6 Zh.Fuel,i6 Zh.Stack,i6 Zh.Heap,v16,z.2.1] 200 (List.replicate 200 Zi.zero:List Zi) [] 122,Zg kb 5 z.2.1 Z0c,Zg (TK kb) 31 z.1 [Zh.Args,Zh.Zk],Zl b18 [v12,v14,i8 Zh.Result,.bool Zh.Reads,i6 Zh.Fuel,i6 Zh.Stack,i6 Zh.Heap,v16] 34,Zl b4 [Z6,Za,Z5,i6 Z0.Zo] 25] w2) 1 #[true,true,true,true,true,true,true,true,true,true,true,false] (fun z=>?_) (fun Zk5=>?_)
 ·obtain⟨K5,UA,Z4Z,Km⟩:=z;refine dn ?_;refine d1 11 ?_;refine st 0 ?_;refine dz ?_;obtain⟨Zfk,hc,ho⟩:=bind_some ho;refine SP.Z0m see (caps:=[]) (.bool Zfk) ZtV.h rfl rfl rfl rfl (fun w2 hs=>YT.ok _ hc w2 (hp w2) (Sub.refl _) (aS ((St.Ur 2 rfl see.sub see.dj hs)) (aS ((St.Ur 4 rfl see.sub see.dj hs)) (aS ((St.Ur 5 rfl see.sub see.dj hs)) (aS ((St.Ur 6 rfl see.sub see.dj hs)) (aS ((St.Ur 0 rfl see.sub see.dj hs)) (aS ((St.Ur 1 rfl see.sub see.dj hs)) (aS ((St.Ur 2 rfl see.sub see.dj hs)) (aS (Zg.read (St.own 2 rfl see.sub see.dj hs) (Sub.refl _) (Sub.refl _)) (All.cons (WT.Z6u (St.own 1 rfl see.sub see.dj hs)) (All.cons (St.own 0 rfl see.sub see.dj hs) (All.nil _)))))))))))) ?_;clear hc;refine gg ?_;refine cb ho (fun ho=>?_) fun ho=>?_
  ·exact fin ho hr▸rt (fun _ h=>sQ [0] (nO ZP 119 h))
  obtain⟨ZbH,Z8j,ho⟩:=Yu ho;refine SP.val (Val.Zc8 see 1 rfl Tryz.underlying120 Z3g.h Z8j.1 Z8j.2 rfl rfl) rfl rfl rfl ?_;refine SP.val (Val.Zc9 Tryz.underlying119 rfl sz4.h rfl) rfl rfl rfl ?_;refine SP.Zgh (j:=0) (z0:=({ ZbH with Reached:=true }:Zi)) (vs:=[.bool true]) see 1 0 rfl Z8j.2 rfl (by rfl) sz4.h rfl (fun a cs ap r=>by obtain⟨v0_,e,p0_⟩:=r;subst e;exact⟨v0_,rfl,p0_⟩) rfl rfl rfl (gg ?_);refine CP.Vk see 2 rfl ?_;refine lo ho hr (fun z=>∃Z5V Z3Z,z (.l1 Zh Z0c Z5V Z3Z) [(6,pt b18),(8,pt Km),(54,i6 (Zh.Code.length:Int)),(55,i6 Z3Z)] [Zl Km [pt Z4Z] 116,WT ZP Z4Z [Z6,Za,Z5,i6 Z0.Zo,v12,v14,i8 Zh.Result,.bool Zh.Reads,i6 Zh.Fuel,i6 Zh.Stack,i6 Zh.Heap,v16,UA] 200 Z5V [] 122,Zl b18 [v12,v14,i8 Zh.Result,.bool Zh.Reads,i6 Zh.Fuel,i6 Zh.Stack,i6 Zh.Heap,v16] 34]) (fun _ z=>⟨((List.replicate 200 Zi.zero:List Zi).set (0:Int).toNat ({ ZbH with Reached:=true }:Zi)),0,z⟩) ?_ (sO [0,1,3]) (hb:=pe [Z9 kb UA Z0c,Z9 kb v12 Zh.Args,Z9 kb v14 Zh.Zk,Z9 Z8 v16 Zh.Code,Z9 Z4 Z6 Z0.ZA,Z9 Z4 Za Z0.Pool,Z9 Zd Z5 Z0.Methods,Xi ZY 0 XM]);rintro _ _ _ ⟨Z5V,Z3Z,ZAz,o,_,_,ho,hr,h⟩;refine en h ?_;refine ci ho (fun ho=>?_) fun ho=>?_
  ·refine so [1,0,2] ?_;obtain⟨Z9c,hc,ho⟩:=bind_some ho;refine SP.Wy see (caps:=[]) _ Zu0.h rfl rfl rfl rfl (fun w2 hP h1 sub s1 d1 ap hI=>YR.ok _ _ _ _ _ _ _ _ _ _ _ _ _ _ _ _ _ _ _ _ _ _ _ hc w2 hP sub (ap.get 4 rfl) (ap.get 5 rfl) (ap.get 6 rfl) (ap.get 1 rfl) (ap.get 2 rfl) (ap.get 3 rfl) (ap.get 0 rfl) (ap.get 7 rfl) _ h1 s1 d1 hI) (SP.k0 ?_);clear hc;refine gg ?_;refine ci ho (fun ho=>?_) fun ho=>?_
   ·exact fin ho hr▸rt (fun _ h=>sQ [0] (nO ZP 119 h))
   exact lw ho hr (fun _ z=>⟨Z9c.2,(wr (Z3Z+1)),z⟩) (sO [1,0,2])
  refine dr ?_;refine DA.ph 0 6 ?_;refine DT.tk 0 ?_;refine DT.tk 1 ?_;refine DT.tk 2 ?_;refine DT.tk 3 ?_;refine DT.tk 4 ?_;refine DT.tk 5 ?_;refine dn ?_;refine d1 6 ?_;obtain⟨hz,ho⟩:=Xn ho;refine SP.ZlP see 1 rfl Tryz.underlying120 Z3g.h rfl rfl rfl hz rfl rfl (fun ZAA=>?_);clear hz;refine gg ?_;refine d1 7 ?_;refine k1 WV.ok ho fun Z3i ho Zsd=>?_;refine d1 8 ?_;refine dz ?_;refine lo ho hr (fun z=>∃Z3j Z1s ZbK,z (.l2 Z3i Z3j Z1s) [(11,ZbK),(74,i6 (Z3i.length:Int)),(75,i6 Z1s)] [Zg ZP 119 ZbK Z3j]) (fun _ z=>⟨Z3i,0,Zsd,z⟩) ?_ (sO [0]) (hb:=pe [Xi ZY 0 XM]);rintro _ _ _ ⟨Z3j,Z1s,ZbK,ZAB,o,_,_,ho,hr,h⟩;refine en h ?_;refine ci ho (fun ho=>?_) fun ho=>?_;rotate_left
  ·exact fin ho hr▸rt (sO [0])
  obtain⟨Zk4,Z8k,ho⟩:=Yu ho;refine SP.Wo (fun w2 hw=>Zg.whole (St.own 0 rfl see.sub see.dj hw)) Tryz.underlying67 Z3g.h Z8k.1 Z8k.2 rfl rfl rfl rfl (fun ZAC Zl5=>?_);refine SP.Z2l Zl5 Tryz.underlying119 rfl Jq.h rfl rfl rfl (fun ZAD Zl6=>?_);refine SP.Z5m (j:=Z1s) see 0 1 rfl Z8k.2 Zl6 (fun _ _ ⟨v0_,e,p0_⟩=>⟨v0_,by subst e;rfl,p0_⟩) Tryz.underlying31 rfl rfl rfl (fun ZAE=>?_);refine k1 V3.ok ho fun ZbI ho Zk6=>?_;obtain⟨ZbJ,Z8l,ho⟩:=Yu ho;refine SP.Wo (fun w2 hw=>Zg.whole (St.own 1 rfl see.sub see.dj hw)) Tryz.underlying67 Z3g.h Z8l.1 Z8l.2 rfl rfl rfl rfl (fun ZAF Zl7=>?_);refine SP.Z2l Zl7 Tryz.underlying119 rfl Jq.h rfl rfl rfl (fun ZAH Zl8=>?_);refine fz (h:=id) 0 ?_;refine sp 0 fun Zcy=>?_;refine SP.Z2m (z0:=({ ZbJ with Kinds:=ZbI }:Zi)) (off:=1) (vs:=[Zk6]) see 0 rfl Z8l.2 Zl8 (Z4S Zcy) (VD Zcy (rfl)) Jq.h rfl (fun a cs ap r=>by obtain⟨v0_,e,p0_⟩:=r;subst e;exact⟨Zk6,rfl,ap.get 0 rfl⟩) rfl rfl rfl (gg ?_);exact lw ho hr (fun _ z=>⟨(Z3j.set Z1s.toNat ({ ZbJ with Kinds:=ZbI }:Zi)),(wr (Z1s+1)),ZbK,z⟩)
 refine DT.cut (ι:=Value×Value×Nat) (fun z=>[(6,pt b18),(42,.pointer (some ⟨z.2.2,0,none⟩))]) (fun z w2=>St w em hV [Z9 kb v12 Zh.Args,Z9 kb v14 Zh.Zk,Z9 Z8 v16 Zh.Code,U8 Zd p9 Zh,Z9 Z4 Z6 Z0.ZA,Z9 Z4 Za Z0.Pool,Z9 Zd Z5 Z0.Methods,Xi ZY 0 XM] [WT ZP z.2.2 [Z6,Za,Z5,i6 Z0.Zo,v12,v14,i8 Zh.Result,.bool Zh.Reads,i6 Zh.Fuel,i6 Zh.Stack,i6 Zh.Heap,v16,z.2.1] 200 (List.replicate 200 Zi.zero:List Zi) [] 122,Zg kb 5 z.2.1 Z0c,Zg (TK kb) 31 z.1 [Zh.Args,Zh.Zk],Zl b18 [v12,v14,i8 Zh.Result,.bool Zh.Reads,i6 Zh.Fuel,i6 Zh.Stack,i6 Zh.Heap,v16] 34,Zl b4 [Z6,Za,Z5,i6 Z0.Zo] 25] w2) 2 #[true,true,true,true,true,true,true,true,true,true,false,false] (fun z=>?_) (fun Zse=>?_)
 ·obtain⟨K5,UA,Z4Z⟩:=z;refine DT.one 10 rfl (by kernel_rfl) rfl ?_;refine al fun Km=>?_;refine QE.Vq (fun w2 hw=>(sQ [4,5] hw)) ?_;refine DT.list (l2 := #[true,true,true,true,true,true,true,true,true,true,true,false]) (by kernel_rfl) ?_;exact DT.weak (by exact⟨rfl,rfl,rfl,trivial⟩) (by exact fun w2 hw=>hw) (Zk5 (K5,UA,Z4Z,Km))
 refine DT.cut (ι:=Value×Value×Nat) (fun z=>[(6,pt b18),(8,.pointer (some ⟨z.2.2,0,none⟩)),(41,.agg (([Z6,Za,Z5,i6 Z0.Zo,v12,v14,i8 Zh.Result,.bool Zh.Reads,i6 Zh.Fuel,i6 Zh.Stack,i6 Zh.Heap,v16,z.2.1]++Z07)).toArray)]) (fun z w2=>St w em hV [Z9 kb v12 Zh.Args,Z9 kb v14 Zh.Zk,Z9 Z8 v16 Zh.Code,U8 Zd p9 Zh,Z9 Z4 Z6 Z0.ZA,Z9 Z4 Za Z0.Pool,Z9 Zd Z5 Z0.Methods,Xi ZY 0 XM] [Zl z.2.2 [.pointer none] 116,Zg kb 5 z.2.1 Z0c,Zg (TK kb) 31 z.1 [Zh.Args,Zh.Zk],Zl b18 [v12,v14,i8 Zh.Result,.bool Zh.Reads,i6 Zh.Fuel,i6 Zh.Stack,i6 Zh.Heap,v16] 34,Zl b4 [Z6,Za,Z5,i6 Z0.Zo] 25] w2) 2 #[true,true,true,true,true,true,true,true,true,false,true,false] (fun z=>?_) (fun Zk7=>?_)
 ·obtain⟨K5,UA,Km⟩:=z;refine DT.one 9 rfl (by kernel_rfl) rfl ?_;refine bx (h:=fun _=>id) fun Z4Z=>?_;refine SP.imp (fun w2 hw=>St.WT (k:=ZP) 0 rfl (List.replicate 200 Zi.zero:List Zi) [Z6,Za,Z5,i6 Z0.Zo,v12,v14,i8 Zh.Result,.bool Zh.Reads,i6 Zh.Fuel,i6 Zh.Stack,i6 Zh.Heap,v16,UA] Z07 [] (Flat.rep (k:=ZP) (z:=[.bool false,nl]) (x:=Zi.zero) ⟨_,rfl,Z9.nil _ _⟩ 200) (congrArg _ (List.append_nil _).symm) List.length_replicate hw) (gg ?_);refine QE.Vq (fun w2 hw=>(sQ [4,5] hw)) ?_;refine DT.list (l2 := #[true,true,true,true,true,true,true,true,true,true,true,false]) (by kernel_rfl) ?_;exact DT.weak (by exact⟨rfl,rfl,rfl,trivial⟩) (by exact fun w2 hw=>(sQ [1,0,2,3,4,5] hw)) (Zk5 (K5,UA,Z4Z,Km))
 refine DT.cut (ι:=Value×Value) (fun z=>[(6,pt b18),(41,.agg (([Z6,Za,Z5,i6 Z0.Zo,v12,v14,i8 Zh.Result,.bool Zh.Reads,i6 Zh.Fuel,i6 Zh.Stack,i6 Zh.Heap,v16,z.2]++Z07)).toArray)]) (fun z w2=>St w em hV [Z9 kb v12 Zh.Args,Z9 kb v14 Zh.Zk,Z9 Z8 v16 Zh.Code,U8 Zd p9 Zh,Z9 Z4 Z6 Z0.ZA,Z9 Z4 Za Z0.Pool,Z9 Zd Z5 Z0.Methods,Xi ZY 0 XM] [Zg kb 5 z.2 Z0c,Zg (TK kb) 31 z.1 [Zh.Args,Zh.Zk],Zl b18 [v12,v14,i8 Zh.Result,.bool Zh.Reads,i6 Zh.Fuel,i6 Zh.Stack,i6 Zh.Heap,v16] 34,Zl b4 [Z6,Za,Z5,i6 Z0.Zo] 25] w2) 3 #[true,true,true,true,true,true,true,true,true,false,false,false] (fun z=>?_) (fun Zsf=>?_)
 ·obtain⟨K5,UA⟩:=z;refine DT.any 9 [10] (by kernel_rfl) ⟨⟨_,rfl,rfl,?_⟩,⟨_,rfl,rfl,?_⟩,trivial⟩
  ·refine bx (h:=fun _=>id) fun Z4Z=>?_;refine SP.imp (fun w2 hw=>St.WT (k:=ZP) 0 rfl (List.replicate 200 Zi.zero:List Zi) [Z6,Za,Z5,i6 Z0.Zo,v12,v14,i8 Zh.Result,.bool Zh.Reads,i6 Zh.Fuel,i6 Zh.Stack,i6 Zh.Heap,v16,UA] Z07 [] (Flat.rep (k:=ZP) (z:=[.bool false,nl]) (x:=Zi.zero) ⟨_,rfl,Z9.nil _ _⟩ 200) (congrArg _ (List.append_nil _).symm) List.length_replicate hw) (gg ?_);refine QE.Vq (fun w2 hw=>(sQ [3,4] hw)) ?_;refine DT.list (l2 := #[true,true,true,true,true,true,true,true,true,true,false,false]) (by kernel_rfl) ?_;exact DT.weak (by exact⟨rfl,rfl,trivial⟩) (by exact fun w2 hw=>hw) (Zse (K5,UA,Z4Z))
  refine al fun Km=>?_;refine QE.Vq (fun w2 hw=>(sQ [3,4] hw)) ?_;refine DT.list (l2 := #[true,true,true,true,true,true,true,true,true,false,true,false]) (by kernel_rfl) ?_;exact DT.weak (by exact⟨rfl,rfl,rfl,trivial⟩) (by exact fun w2 hw=>hw) (Zk7 (K5,UA,Km))
 refine DT.cut (ι:=Value×Value×Nat) (fun z=>[(6,pt b18),(8,.pointer (some ⟨z.2.2,0,none⟩)),(33,.agg #[Z6,Za,Z5,i6 Z0.Zo]),(34,.agg #[v12,v14,i8 Zh.Result,.bool Zh.Reads,i6 Zh.Fuel,i6 Zh.Stack,i6 Zh.Heap,v16]),(40,z.2.1)]) (fun z w2=>St w em hV [Z9 kb v12 Zh.Args,Z9 kb v14 Zh.Zk,Z9 Z8 v16 Zh.Code,U8 Zd p9 Zh,Z9 Z4 Z6 Z0.ZA,Z9 Z4 Za Z0.Pool,Z9 Zd Z5 Z0.Methods,Xi ZY 0 XM] [Zl z.2.2 [.pointer none] 116,Zg kb 5 z.2.1 Z0c,Zg (TK kb) 31 z.1 [Zh.Args,Zh.Zk],Zl b18 [v12,v14,i8 Zh.Result,.bool Zh.Reads,i6 Zh.Fuel,i6 Zh.Stack,i6 Zh.Heap,v16] 34,Zl b4 [Z6,Za,Z5,i6 Z0.Zo] 25] w2) 3 #[true,true,true,true,true,true,true,true,false,false,true,false] (fun z=>?_) (fun Zk8=>?_)
 ·obtain⟨K5,UA,Km⟩:=z;refine DT.one 8 rfl (by kernel_rfl) rfl ?_;refine sh 1 fun ZiH=>?_;refine bd ([Z6,Za,Z5,i6 Z0.Zo,v12,v14,i8 Zh.Result,.bool Zh.Reads,i6 Zh.Fuel,i6 Zh.Stack,i6 Zh.Heap,v16,UA]++Z07) ?_;refine QE.Vq (fun w2 hw=>(sQ [3,4] hw)) ?_;refine DT.list (l2 := #[true,true,true,true,true,true,true,true,true,false,true,false]) (by kernel_rfl) ?_;exact DT.weak (by exact⟨rfl,rfl,rfl,trivial⟩) (by exact fun w2 hw=>hw) (Zk7 (K5,UA,Km))
 refine DT.cut (ι:=Value×Value) (fun z=>[(6,pt b18),(33,.agg #[Z6,Za,Z5,i6 Z0.Zo]),(34,.agg #[v12,v14,i8 Zh.Result,.bool Zh.Reads,i6 Zh.Fuel,i6 Zh.Stack,i6 Zh.Heap,v16]),(40,z.2)]) (fun z w2=>St w em hV [Z9 kb v12 Zh.Args,Z9 kb v14 Zh.Zk,Z9 Z8 v16 Zh.Code,U8 Zd p9 Zh,Z9 Z4 Z6 Z0.ZA,Z9 Z4 Za Z0.Pool,Z9 Zd Z5 Z0.Methods,Xi ZY 0 XM] [Zg kb 5 z.2 Z0c,Zg (TK kb) 31 z.1 [Zh.Args,Zh.Zk],Zl b18 [v12,v14,i8 Zh.Result,.bool Zh.Reads,i6 Zh.Fuel,i6 Zh.Stack,i6 Zh.Heap,v16] 34,Zl b4 [Z6,Za,Z5,i6 Z0.Zo] 25] w2) 4 #[true,true,true,true,true,true,true,true,false,false,false,false] (fun z=>?_) (fun Zsg=>?_)
 ·obtain⟨K5,UA⟩:=z;refine DT.any 8 [10] (by kernel_rfl) ⟨⟨_,rfl,rfl,?_⟩,⟨_,rfl,rfl,?_⟩,trivial⟩
  ·refine sh 0 fun ZiH=>?_;refine bd ([Z6,Za,Z5,i6 Z0.Zo,v12,v14,i8 Zh.Result,.bool Zh.Reads,i6 Zh.Fuel,i6 Zh.Stack,i6 Zh.Heap,v16,UA]++Z07) ?_;refine QE.Vq (fun w2 hw=>(sQ [2,3] hw)) ?_;refine DT.list (l2 := #[true,true,true,true,true,true,true,true,true,false,false,false]) (by kernel_rfl) ?_;exact DT.weak (by exact⟨rfl,rfl,trivial⟩) (by exact fun w2 hw=>hw) (Zsf (K5,UA))
  refine al fun Km=>?_;refine QE.Vq (fun w2 hw=>(sQ [3,4] hw)) ?_;refine DT.list (l2 := #[true,true,true,true,true,true,true,true,false,false,true,false]) (by kernel_rfl) ?_;exact DT.weak (by exact⟨rfl,rfl,rfl,rfl,rfl,trivial⟩) (by exact fun w2 hw=>hw) (Zk8 (K5,UA,Km))
 refine DT.cut (ι:=Value×Nat) (fun z=>[(6,pt b18),(8,.pointer (some ⟨z.2,0,none⟩)),(33,.agg #[Z6,Za,Z5,i6 Z0.Zo]),(34,.agg #[v12,v14,i8 Zh.Result,.bool Zh.Reads,i6 Zh.Fuel,i6 Zh.Stack,i6 Zh.Heap,v16]),(39,z.1)]) (fun z w2=>St w em hV [Z9 kb v12 Zh.Args,Z9 kb v14 Zh.Zk,Z9 Z8 v16 Zh.Code,U8 Zd p9 Zh,Z9 Z4 Z6 Z0.ZA,Z9 Z4 Za Z0.Pool,Z9 Zd Z5 Z0.Methods,Xi ZY 0 XM] [Zl z.2 [.pointer none] 116,Zg (TK kb) 31 z.1 [Zh.Args,Zh.Zk],Zl b18 [v12,v14,i8 Zh.Result,.bool Zh.Reads,i6 Zh.Fuel,i6 Zh.Stack,i6 Zh.Heap,v16] 34,Zl b4 [Z6,Za,Z5,i6 Z0.Zo] 25] w2) 4 #[true,true,true,true,true,true,true,false,false,false,true,false] (fun z=>?_) (fun Zk9=>?_)
 ·obtain⟨K5,Km⟩:=z;refine DT.one 7 rfl (by kernel_rfl) rfl ?_;refine SP.Z1M see (caps:=[]) _ Zf0.h rfl rfl rfl rfl (fun w2 hs=>ZL.ok (Ug:=[Zh.Args,Zh.Zk]) _ Zcx w2 (hp w2) (Sub.refl _) (aS (Zg.read (St.own 1 rfl see.sub see.dj hs) (Sub.refl _) (Sub.refl _)) (All.nil _))) (fun v a a2 b ⟨UA,e,h⟩=>⟨UA,e,(Sep.Z3U (fun _=>Zg.flip (fun _ _ _ _ h=>h)) (fun _=>Sep.Z5E)) h⟩) (SP.k1 fun UA=>gg ?_);refine QE.Vq (fun w2 hw=>(sQ [3,4] hw)) ?_;refine DT.list (l2 := #[true,true,true,true,true,true,true,true,false,false,true,false]) (by kernel_rfl) ?_;exact DT.weak (by exact⟨rfl,rfl,rfl,rfl,rfl,trivial⟩) (by exact fun w2 hw=>(sQ [1,0,2,3,4] hw)) (Zk8 (K5,UA,Km))
 refine DT.cut (ι:=Value) (fun z=>[(6,pt b18),(33,.agg #[Z6,Za,Z5,i6 Z0.Zo]),(34,.agg #[v12,v14,i8 Zh.Result,.bool Zh.Reads,i6 Zh.Fuel,i6 Zh.Stack,i6 Zh.Heap,v16]),(39,z)]) (fun z w2=>St w em hV [Z9 kb v12 Zh.Args,Z9 kb v14 Zh.Zk,Z9 Z8 v16 Zh.Code,U8 Zd p9 Zh,Z9 Z4 Z6 Z0.ZA,Z9 Z4 Za Z0.Pool,Z9 Zd Z5 Z0.Methods,Xi ZY 0 XM] [Zg (TK kb) 31 z [Zh.Args,Zh.Zk],Zl b18 [v12,v14,i8 Zh.Result,.bool Zh.Reads,i6 Zh.Fuel,i6 Zh.Stack,i6 Zh.Heap,v16] 34,Zl b4 [Z6,Za,Z5,i6 Z0.Zo] 25] w2) 5 #[true,true,true,true,true,true,true,false,false,false,false,false] (fun z=>?_) (fun Zsh=>?_)
 ·rename Value=>K5
  refine DT.any 7 [10] (by kernel_rfl) ⟨⟨_,rfl,rfl,?_⟩,⟨_,rfl,rfl,?_⟩,trivial⟩
  ·refine SP.Z1M see (caps:=[]) _ Zf0.h rfl rfl rfl rfl (fun w2 hs=>ZL.ok (Ug:=[Zh.Args,Zh.Zk]) _ Zcx w2 (hp w2) (Sub.refl _) (aS (Zg.read (St.own 0 rfl see.sub see.dj hs) (Sub.refl _) (Sub.refl _)) (All.nil _))) (fun v a a2 b ⟨UA,e,h⟩=>⟨UA,e,(Sep.Z3U (fun _=>Zg.flip (fun _ _ _ _ h=>h)) (fun _=>Sep.Z5E)) h⟩) (SP.k1 fun UA=>gg ?_);refine QE.Vq (fun w2 hw=>(sQ [2,3] hw)) ?_;refine DT.list (l2 := #[true,true,true,true,true,true,true,true,false,false,false,false]) (by kernel_rfl) ?_;exact DT.weak (by exact⟨rfl,rfl,rfl,rfl,trivial⟩) (by exact fun w2 hw=>hw) (Zsg (K5,UA))
  refine al fun Km=>?_;refine QE.Vq (fun w2 hw=>(sQ [2,3] hw)) ?_;refine DT.list (l2 := #[true,true,true,true,true,true,true,false,false,false,true,false]) (by kernel_rfl) ?_;exact DT.weak (by exact⟨rfl,rfl,rfl,rfl,rfl,trivial⟩) (by exact fun w2 hw=>hw) (Zk9 (K5,Km))
 refine DT.cut (ι:=Nat) (fun z=>[(6,pt b18),(8,pt z),(33,.agg #[Z6,Za,Z5,i6 Z0.Zo]),(34,.agg #[v12,v14,i8 Zh.Result,.bool Zh.Reads,i6 Zh.Fuel,i6 Zh.Stack,i6 Zh.Heap,v16]),(36,v12),(38,v14)]) (fun z w2=>St w em hV [Z9 kb v12 Zh.Args,Z9 kb v14 Zh.Zk,Z9 Z8 v16 Zh.Code,U8 Zd p9 Zh,Z9 Z4 Z6 Z0.ZA,Z9 Z4 Za Z0.Pool,Z9 Zd Z5 Z0.Methods,Xi ZY 0 XM] [Zl z [.pointer none] 116,Zl b18 [v12,v14,i8 Zh.Result,.bool Zh.Reads,i6 Zh.Fuel,i6 Zh.Stack,i6 Zh.Heap,v16] 34,Zl b4 [Z6,Za,Z5,i6 Z0.Zo] 25] w2) 5 #[true,true,true,true,true,true,false,false,false,false,true,false] (fun z=>?_) (fun Zsi=>?_)
 ·rename Nat=>Km
  refine DT.one 6 rfl (by kernel_rfl) rfl ?_;refine SP.Z9N (k:=(TK kb)) (xs:=[Zh.Args,Zh.Zk]) (vs:=[v12,v14]) Tryz.underlying191 Zbs.h rfl rfl rfl rfl rfl rfl (fun _ ap=>⟨Xb.Z1O (ap.get 0 rfl),Xb.Z1O (ap.get 1 rfl),trivial⟩) (fun _ ap=>⟨[v12],_,rfl,⟨_,rfl,ap.get 0 rfl⟩,⟨[v14],_,rfl,⟨_,rfl,ap.get 1 rfl⟩,rfl⟩⟩) rfl rfl rfl (fun K5=>gg ?_);refine QE.Vq (fun w2 hw=>(sQ [2,3] hw)) ?_;refine DT.list (l2 := #[true,true,true,true,true,true,true,false,false,false,true,false]) (by kernel_rfl) ?_;exact DT.weak (by exact⟨rfl,rfl,rfl,rfl,rfl,trivial⟩) (by exact fun w2 hw=>(sQ [1,0,2,3] hw)) (Zk9 (K5,Km))
 refine DT.any 6 [10] (by kernel_rfl) ⟨⟨_,rfl,rfl,?_⟩,⟨_,rfl,rfl,?_⟩,trivial⟩
 ·refine SP.Z9N (k:=(TK kb)) (xs:=[Zh.Args,Zh.Zk]) (vs:=[v12,v14]) Tryz.underlying191 Zbs.h rfl rfl rfl rfl rfl rfl (fun _ ap=>⟨Xb.Z1O (ap.get 0 rfl),Xb.Z1O (ap.get 1 rfl),trivial⟩) (fun _ ap=>⟨[v12],_,rfl,⟨_,rfl,ap.get 0 rfl⟩,⟨[v14],_,rfl,⟨_,rfl,ap.get 1 rfl⟩,rfl⟩⟩) rfl rfl rfl (fun K5=>gg ?_);refine QE.Vq (fun w2 hw=>(sQ [1,2] hw)) ?_;refine DT.list (l2 := #[true,true,true,true,true,true,true,false,false,false,false,false]) (by kernel_rfl) ?_;exact DT.weak (by exact⟨rfl,rfl,rfl,rfl,trivial⟩) (by exact fun w2 hw=>hw) (Zsh K5)
 refine al fun Km=>?_;refine QE.Vq (fun w2 hw=>(sQ [1,2] hw)) ?_;refine DT.list (l2 := #[true,true,true,true,true,true,false,false,false,false,true,false]) (by kernel_rfl) ?_;exact DT.weak (by exact⟨rfl,rfl,rfl,rfl,rfl,rfl,trivial⟩) (by exact fun w2 hw=>hw) (Zsi Km)
def Uo.f(Z0:Zc)(Xo:Int):Option Int:=
  (YF.f Z0 Xo).bind fun t6=>some t6.2
theorem Uo.ok{Z0 Xo Z6 Za Z5}(r)(ho:Uo.f Z0 Xo=some r):Ok Tryz.prog 13 [.agg #[Z6,Za,Z5,i6 Z0.Zo],i6 Xo] [Z9 Z4 Z6 Z0.ZA,Z9 Z4 Za Z0.Pool,Z9 Zd Z5 Z0.Methods,Xi ZY 0 XM] fun v=>HO.pure (v=i6 r):=by
 refine oq 14 Tryz.func13 fun w hV see pb=>?_;refine bx fun b4=>?_;refine k1 YF.ok ho fun t6 ho v7=>?_;exact sI ho▸rt
inductive Vm.S where
  |start
  |l1 (x8:Int)
def Vm.F(Z0:Zc):Vm.S→Option (Vm.S⊕(Int×Int))
  | .start=>some (.inl (.l1 0))
  | .l1 x8=>if x8<(Z0.Methods.length:Int)then((Uo.f Z0 x8).bind fun t10=>if t10≠0 then(some (.inr (x8,t10)))else(some (.inl (.l1 (IntKind.i64.wrap (x8+1))))))else(some (.inr ((-1),0)))
def Vm.f(Z0:Zc):Option (Int×Int):=Zw (Vm.F Z0) .start
theorem Vm.ok{Z0 Z6 Za Z5}(r)(H:Vm.f Z0=some r):Ok Tryz.prog 42 [.agg #[Z6,Za,Z5,i6 Z0.Zo]] [Z9 Z4 Z6 Z0.ZA,Z9 Z4 Za Z0.Pool,Z9 Zd Z5 Z0.Methods,Xi ZY 0 XM] fun v=>HO.pure (v=.tuple #[i6 r.1,i6 r.2]):=by
 refine oq 20 Tryz.func42 fun w hV see pb=>?_;obtain⟨m0,o,ho,hr⟩:=rn H;refine bx fun b4=>?_;refine lo ho hr (fun z=>∃x8,z (.l1 x8) [(1,pt b4),(8,i6 (Z0.Methods.length:Int)),(9,i6 x8)] [Zl b4 [Z6,Za,Z5,i6 Z0.Zo] 25]) (fun _ z=>⟨0,z⟩) ?_;rintro _ _ _ ⟨x8,m9,o,_,_,ho,hr,h⟩;refine en h ?_;refine ci ho (fun ho=>?_) fun ho=>?_
 ·refine kv Uo.ok ho fun t10 ho=>?_;refine ci ho (fun ho=>?_) fun ho=>?_
  ·exact fin ho hr▸rt
  exact lw ho hr (fun _ z=>⟨(wr (x8+1)),z⟩)
 exact fin ho hr▸rt
def Z16.f(Z0:Zc):Option Int:=
  (Vm.f Z0).bind fun t6=>some t6.2
theorem Z16.ok{Z0 Z6 Za Z5}(r)(ho:Z16.f Z0=some r):Ok Tryz.prog 143 [.agg #[Z6,Za,Z5,i6 Z0.Zo]] [Z9 Z4 Z6 Z0.ZA,Z9 Z4 Za Z0.Pool,Z9 Zd Z5 Z0.Methods,Xi ZY 0 XM] fun v=>HO.pure (v=i6 r):=by
 refine oq 11 Tryz.func143 fun w hV see pb=>?_;refine bx fun b4=>?_;refine kv Vm.ok ho fun t6 ho=>?_;exact sI ho▸rt
def Z1R.f(Z0:Zc)(Xo:Int):Option Unit:=
  some ()
theorem Z1R.ok{Z0 Xo Z6 Za Z5}(r)(ho:Z1R.f Z0 Xo=some r):Ok Tryz.prog 47 [.agg #[Z6,Za,Z5,i6 Z0.Zo],i6 Xo] [Z9 Z4 Z6 Z0.ZA,Z9 Z4 Za Z0.Pool,Z9 Zd Z5 Z0.Methods] fun v=>HO.ex fun b0_:Nat=>HO.ex fun b1_:Nat=>HO.Yr (v=.func (.func 95) #[] #[pt b0_,pt b1_]) (HO.Yk [HO.ofP (Ku b0_ [Z6,Za,Z5,i6 Z0.Zo] 25),HO.ofP (Ku b1_ [i6 Xo] 3)]):=by
 refine oq 6 Tryz.func47 fun w hV see pb=>?_;refine bx fun b4=>?_;refine bx fun b6=>?_;refine QE.Z2V see 1 rfl ?_;refine QE.Z2V see 0 rfl ?_;exact QE.rt (fun _ h=>h) (hk:=fun a b p s=>⟨_,_,rfl,⟨em,em,Dj.YM _,Sub.em _,Sub.em _,p.get 1 rfl,⟨em,em,Dj.YM _,Sub.em _,Sub.em _,p.get 0 rfl,trivial⟩⟩⟩)
inductive Wi.S(S_:Type) where
  |start
  |l1 (Uh:Zb) (s30:S_) (x31:Int)
def Wi.F{S_:Type}(Y:S_→Int→Option (S_×Bool))(y0:S_)(Z0F Z0G:List Zp)(Z1H:List Zb)(Z25 Z5W:Int):Wi.S S_→Option (Wi.S S_⊕S_)
  | .start=>(elt Z1H Z5W).bind fun Uh=>some (.inl (.l1 Uh y0 0))
  | .l1 Uh s30 x31=>if x31<(Uh.Code.length:Int)then((elt Uh.Code x31).bind fun x35=>(if x35.Op=30 then((Y s30 x35.A).bind fun y40=>some (!y40.2,y40.1))else(some (false,s30))).bind fun t41=>if t41.1=true then(some (.inr t41.2))else(some (.inl (.l1 Uh t41.2 (IntKind.i64.wrap (x31+1))))))else(some (.inr s30))
def Wi.f{S_:Type}(Y:S_→Int→Option (S_×Bool))(y0:S_)(Z0F Z0G:List Zp)(Z1H:List Zb)(Z25 Z5W:Int):Option S_:=Zw (Wi.F Y y0 Z0F Z0G Z1H Z25 Z5W) .start
theorem Wi.ok{S_:Type}(Y:S_→Int→Option (S_×Bool))(y0:S_)(Z0F Z0G:List Zp)(Z1H:List Zb)(Z25 Z5W:Int)(Z2z Z2A Z2B:Value)(b8 b11:Nat)(r:S_)(H:Wi.f Y y0 Z0F Z0G Z1H Z25 Z5W=some r)(w:World)(hV:Hp)(sV:Sub hV (hp w))(h0:Xb Z4 hV Z2z Z0F)(h1:Xb Z4 hV Z2A Z0G)(h2:Xb Zd hV Z2B Z1H)(h3:(Ku b8 [Z2z,Z2A,Z2B,i6 Z25] 25).p hV)(h4:(Ku b11 [i6 Z5W] 3).p hV)(lY:Nat)(I:S_→HO)(hA:Hp)(sA:Sub hA (hp w))(dA:Dj hV hA)(hI:(I y0).p hV hA)(hY:Go.Q.Yields Tryz.prog lY hV Y I (E1 ki false)) :
    XL Tryz.prog 95 [.func (.yield lY) #[] #[],pt b8,pt b11].toArray hA hV w (fun v=>HO.Yr (v=.tuple #[]) (HO.Yk [I r])):=by
 have see:YG w hA hV:=⟨sV,dA⟩
 refine XL.of (P:=Tryz.prog) (n:=⟨28,[]⟩) Tryz.func95 rfl ⟨rfl,rfl⟩ rfl (St.K6 (os:=[I y0]) sA (aS h0 (aS h1 (aS h2 (All.cons (x:=Ku b8 [Z2z,Z2A,Z2B,i6 Z25] 25) h3 (All.cons (x:=Ku b11 [i6 Z5W] 3) h4 (All.nil _)))))) ⟨hA,em,Dj.WM _,Sub.refl _,Sub.em _,hI,trivial⟩) ?_;obtain⟨m0,o,ho,hr⟩:=rn H;refine CP.seq ?_;refine CP.region ?_;refine SP.val (Val.fieldAddr Tryz.underlying25 rfl Ziz.h rfl) rfl rfl rfl ?_;refine SP.val (Val.Z5h see 3 rfl Tryz.underlying23 rfl rfl rfl) rfl rfl rfl ?_;refine SP.val (Val.Z5h see 4 rfl Tryz.underlying3 rfl rfl rfl) rfl rfl rfl ?_;refine ip 2 ho fun Uh ho p13=>?_;refine SP.WG see 0 rfl Tryz.underlying34 rfl Zcc.h Zd.Z27 rfl rfl rfl (fun p16=>?_);refine SP.Z2k see 0 rfl Tryz.underlying32 rfl rfl rfl (fun v18=>gg ?_);refine lo ho hr (fun z=>∃s30 x31,z (.l1 Uh s30 x31) [(0,.func (.yield lY) #[] #[]),(11,v18),(12,i6 (Uh.Code.length:Int)),(13,i6 x31)] [I s30]) (fun _ z=>⟨y0,0,z⟩) ?_ (hb:=pe [Z9 Z8 v18 Uh.Code]);rintro _ _ _ ⟨s30,x31,m32,o,_,_,ho,hr,h⟩;refine en h ?_;refine ci ho (fun ho=>?_) fun ho=>?_;rotate_left
 ·obtain rfl:=fin ho hr;exact QE.over (rs:=[]) (vs:=[]) Tryz.results95 rfl trivial (fun w2 h=>St.done (fun a b p s=>⟨rfl,s⟩) (sQ [0] h))
 refine ip 0 ho fun x35 ho p33=>?_;refine ld 0 ?_;refine al fun b36=>?_;refine st 0 ?_;obtain⟨t41,Z3t,ho⟩:=bind_some ho;refine SP.js 6 [0,11,12,13] 26 (.bool t41.1) (fun w2=>St w hA hV [U8 Z8 p33 x35,Z9 Z8 v18 Uh.Code] [Zl b36 [i8 x35.Op,i6 x35.A,i6 x35.B] 43,I t41.2] w2) ?_ ?_
 ·clear Z3t;refine gg ?_;refine cb ho (fun ho=>?_) fun ho=>?_
  ·exact fin ho hr▸rt (sO [1])
  exact lw ho hr (fun _ z=>⟨t41.2,(wr (x31+1)),z⟩) (sO [1])
 refine bi 20 Z3t (fun Z8h ho=>?_) fun Z8h ho=>?_
 ·refine so [1,0] ?_;obtain⟨y40,hc,ho⟩:=bind_some ho;refine SP.Zp3 see hY (t:=y40.1) (b:=y40.2) hc rfl rfl rfl rfl (fun hP ap=>⟨_,rfl,⟨_,rfl,rfl⟩⟩) ?_;clear hc;refine gg ?_;obtain rfl:=sI ho;exact QE.jn fun w2 hw=>(sQ [1,0] hw)
 obtain rfl:=sI ho;exact jn
def VY.y1(Z0:Zc)(Xo:Int)(l39:List Int)(x41 x42:Int):Option ((((List Int)×Int)×Bool)×Bool):=
  if((decide (x42<0))||(decide (x42≥(Z0.Methods.length:Int))))=true then(some (((l39,2),true),false))else(if(l39.length + [x42].length)*8≤140737488355328 then(some (((l39 ++ [x42],x41),false),true))else none)
def VY.f(Z0:Zc)(Xo:Int):Option ((List Int)×Int):=
  if((decide (Xo<0))||(decide (Xo≥(Z0.Methods.length:Int))))=true then(some ([],2))else((Z1R.f Z0 Xo).bind fun Kj=>(Wi.f (fun s x=>bif s.2 then none else VY.y1 Z0 Xo s.1.1 s.1.2 x) (([],0),false) Z0.ZA Z0.Pool Z0.Methods Z0.Zo Xo).bind fun s55=>match s55 with|((l39,x41),lf57)=>if lf57=true then(some ([],x41))else(if l39.length<4611686018427387904 then(if(l39.mergeSort fun x y=>decide (x≤y)).length<4611686018427387904 then(some ((Lib.compact (l39.mergeSort fun x y=>decide (x≤y))),0))else none)else none))
theorem VY.ok(Z0:Zc)(Xo:Int)(Z6 Za Z5:Value)(r:(List Int)×Int)(H:VY.f Z0 Xo=some r)(w:World)(hV:Hp)(sV:Sub hV (hp w))(h0:Xb Z4 hV Z6 Z0.ZA)(h1:Xb Z4 hV Za Z0.Pool)(h2:Xb Zd hV Z5 Z0.Methods) :
    XL Tryz.prog 23 [.agg #[Z6,Za,Z5,i6 Z0.Zo],i6 Xo].toArray em hV w (fun v=>HO.ex fun u0:Value=>HO.Yr (v=.tuple #[u0,i6 r.2]) (HO.Yk [Zg ki 3 u0 r.1])):=by
 have see:YG w em hV:=⟨sV,Dj.WM _⟩
 refine XL.ofM (P:=Tryz.prog) (n:=⟨38,[]⟩) Tryz.func23 rfl ⟨rfl,rfl⟩ rfl (St.begin (aS h0 (aS h1 (aS h2 (All.nil _))))) ?_;have ho:=H;refine gg ?_;refine bx fun b4=>?_;refine al fun b6=>?_;refine al fun b8=>?_;refine sj 6 [1,2,4,5] 16 ho ?_ ?_;rotate_left
 ·refine bb 10 (fun hq11=>?_) fun hq11=>?_
  ·exact jb (Vi hq11)
  exact jb (Vj hq11 rfl)
 refine gg ?_;refine cb ho (fun ho=>?_) fun ho=>?_
 ·refine st 1 ?_;refine st 0 ?_;obtain rfl:=sI ho;exact QE.ZeO 3 rfl (rs:=[.cell 4 48,.cell 5 28]) (vs:=[nl,i6 2]) Tryz.results23 ⟨Xp.cell1 1 rfl rfl Tryz.underlying48 rfl,Xp.cell1 0 rfl rfl Tryz.underlying28 rfl,trivial⟩ (fun w2 h=>St.done (fun a b p s=>⟨_,rfl,s⟩) (sQ [0] (nO ki 3 h)))
 refine al fun b13=>?_;obtain⟨Kj,hc,ho⟩:=bind_some ho;refine SP.Ti see (caps:=[]) _ Zu1.h rfl rfl rfl rfl (fun w2 hP hs sub ap=>Z1R.ok _ hc w2 hP sub (aS (ap.get 0 rfl) (aS (ap.get 1 rfl) (aS (ap.get 2 rfl) (All.nil _))))) (SP.k2 fun b16 b17=>?_);refine SP.imp (fun w2 h=>St.toP 0 rfl h) ?_;refine SP.imp (fun w2 h=>St.toP 0 rfl h) ?_;clear hc;refine gg ?_;obtain⟨s55,hc,ho⟩:=bind_some ho;obtain⟨⟨l39,x41⟩,lf57⟩:=s55;refine CP.imp (A':=fun w2=>St w em hV [Ku b17 [i6 Xo] 3,Ku b16 [Z6,Za,Z5,i6 Z0.Zo] 25,Z9 Z4 Z6 Z0.ZA,Z9 Z4 Za Z0.Pool,Z9 Zd Z5 Z0.Methods] [(fun s:(List Int)×Int=>(fun(l39:List Int) (x41:Int)=>HO.ex fun v40:Value=>HO.Yk [Zg ki 3 v40 l39,Zl b13 [v40] 48,Zl b8 [i6 x41] 28,Zl b6 [nl] 48,Zl b4 [Z6,Za,Z5,i6 Z0.Zo] 25]) s.1 s.2) ([],0),Uv []] w2) (fun w2 hw=>St.shut nl (St.group _ (nO ki 3 hw))) ?_;refine CP.ZlU see (J:=fun s:(List Int)×Int=>(fun(l39:List Int) (x41:Int)=>HO.ex fun v40:Value=>HO.Yk [Zg ki 3 v40 l39,Zl b13 [v40] 48,Zl b8 [i6 x41] 28,Zl b6 [nl] 48,Zl b4 [Z6,Za,Z5,i6 Z0.Zo] 25]) s.1 s.2) (Y:=fun s x=>bif s.2 then none else VY.y1 Z0 Xo s.1.1 s.1.2 x) (s0:=([],0)) (sf:=(l39,x41)) (E:=(E1 ki false)) (caps:=[pt b16,pt b17]) Zu2.h rfl (σ1:=[(2,pt b4),(4,pt b6),(5,pt b8),(6,pt b13)]) ⟨rfl,rfl,rfl,rfl,trivial⟩ rfl (E1.len rfl) (fun _ _=>rfl) (fun lY I w2 hP h1 sub s1 d1 ap hI hY=>Wi.ok (fun s x=>bif s.2 then none else VY.y1 Z0 Xo s.1.1 s.1.2 x) (([],0),false) Z0.ZA Z0.Pool Z0.Methods Z0.Zo Xo _ _ _ _ _ _ hc w2 hP sub (ap.get 2 rfl) (ap.get 3 rfl) (ap.get 4 rfl) (ap.get 1 rfl) (ap.get 0 rfl) lY I h1 s1 d1 hI hY) ?_ ho (fun D56 ho=>?_) (fun D56 ho=>?_)
 ·rintro lY LO hLO s_ x42 t l b vals ho w3 hP3 h3 ZvX s3 d3 ap3 hE;obtain⟨l39,x41⟩:=s_;obtain⟨q43,rfl,cs0,hk0,e0⟩:=hE;replace e0:[q43]=cs0:=e0;subst e0;obtain rfl:q43=i6 x42:=(List.cons.inj hk0).1;have see:YG w3 h3 hP3:=⟨ZvX,d3⟩
  refine CP.weak (σ':=[(2,pt b4),(4,pt b6),(5,pt b8),(6,pt b13),(20,i6 x42)]) ⟨rfl,rfl,rfl,rfl,rfl,trivial⟩ (fun _ h=>h) ?_;refine CP.ex (fun w2 h=>St.open h) (fun v40=>?_);refine CP.imp (fun w2 h=>St.Yk h) (gg ?_);refine QE.ZlT hLO 5 rfl (gg ?_);refine sj 6 [4,5,6,7] 29 ho ?_ ?_;rotate_left
  ·refine bb 23 (fun ZiI=>?_) fun ZiI=>?_
   ·exact jb (Vi ZiI)
   exact jb (Vj ZiI rfl)
  refine gg ?_;refine cb ho (fun ho=>?_) fun ho=>?_
  ·refine st 3 ?_;refine st 2 ?_;obtain⟨h_,rfl⟩:=Prod.mk.inj (sI ho);obtain⟨rfl,rfl⟩:=Prod.mk.inj h_;exact QE.Zp5 hLO 5 rfl fun w2 hw=>St.shut v40 (St.group _ (St.V5 [] rfl hw))
  refine li (h:=fun _=>id) ki [x42] fun v46=>?_;refine fz 0 ?_;refine ap (h:=fun _=>id) 0 0 ho fun v48 ho=>?_;refine sh 0 fun ZmQ=>?_;refine st 1 ?_;obtain⟨h_,rfl⟩:=Prod.mk.inj (sI ho);obtain⟨rfl,rfl⟩:=Prod.mk.inj h_;exact QE.Zp4 hLO 5 rfl fun w2 hw=>St.shut v48 (St.group _ (St.V5 [] rfl hw))
 ·refine QE.ex (fun w2 h=>St.open h) (fun v40=>?_);refine QE.imp (fun w2 h=>St.Yk h) (gg ?_);obtain rfl:=sI ho;exact QE.ZeO 5 rfl (rs:=[.cell 4 48,.cell 5 28]) (vs:=[nl,i6 x41]) Tryz.results23 ⟨Xp.cell1 3 rfl rfl Tryz.underlying48 rfl,Xp.cell1 2 rfl rfl Tryz.underlying28 rfl,trivial⟩ (fun w2 h=>St.done (fun a b p s=>⟨_,rfl,s⟩) (sQ [0] (nO ki 3 h)))
 refine QE.ex (fun w2 h=>St.open h) (fun v40=>?_);refine QE.imp (fun w2 h=>St.Yk h) (gg ?_);obtain⟨hb,ho⟩:=Xn ho;refine SP.Wy see (caps:=[]) (fun r=>HO.Yr (r=.tuple #[]) (HO.Yk [Zg ki 3 v40 (l39.mergeSort fun x y=>decide (x≤y))])) Zm6.h rfl rfl rfl rfl (fun w2 hP h1 sub s1 d1 ap hI=>Z7W hb sub s1 d1 hI) (SP.k0 ?_);clear hb;refine gg ?_;obtain⟨hb,ho⟩:=Xn ho;refine SP.Wy see (caps:=[]) (fun r=>HO.ex fun u:Value=>HO.Yr (r=u) (HO.Yk [Zg ki 3 u (Lib.compact (l39.mergeSort fun x y=>decide (x≤y)))])) Zm7.h rfl rfl rfl rfl (fun w2 hP h1 sub s1 d1 ap hI=>Z4Y hb sub s1 d1 hI) (SP.k1 fun v61=>?_);clear hb;refine sh 0 fun ZxU=>?_;refine st 3 ?_;refine st 2 ?_;obtain rfl:=sI ho;exact QE.ZeO 5 rfl (rs:=[.cell 4 48,.cell 5 28]) (vs:=[v61,i6 0]) Tryz.results23 ⟨Xp.cell1 3 rfl rfl Tryz.underlying48 rfl,Xp.cell1 2 rfl rfl Tryz.underlying28 rfl,trivial⟩ (fun w2 h=>St.done (fun a b p s=>⟨_,rfl,s⟩) (sQ [0] h))
inductive Ui.S where
  |start
  |l1 (Tf:List (List Int)) (x20:Int)
def Ui.F(Z0:Zc):Ui.S→Option (Ui.S⊕((List (List Int))×Int))
  | .start=>some (.inl (.l1 [] 0))
  | .l1 Tf x20=>if x20<(Z0.Methods.length:Int)then((VY.f Z0 x20).bind fun t22=>if t22.2≠0 then(some (.inr ([],t22.2)))else(if(Tf.length + [t22.1].length)*24≤140737488355328 then(some (.inl (.l1 (Tf ++ [t22.1]) (IntKind.i64.wrap (x20+1)))))else none))else(some (.inr (Tf,0)))
def Ui.f(Z0:Zc):Option ((List (List Int))×Int):=Zw (Ui.F Z0) .start
theorem Ui.ok{Z0 Z6 Za Z5}(r)(H:Ui.f Z0=some r):Ok Tryz.prog 82 [.agg #[Z6,Za,Z5,i6 Z0.Zo]] [Z9 Z4 Z6 Z0.ZA,Z9 Z4 Za Z0.Pool,Z9 Zd Z5 Z0.Methods] fun v=>HO.ex fun u0:Value=>HO.Yr (v=.tuple #[u0,i6 r.2]) (HO.Yk [Zg (TK ki) 48 u0 r.1]):=by
 refine oq 29 Tryz.func82 fun w hV see pb=>?_;obtain⟨m0,o,ho,hr⟩:=rn H;refine bx fun b4=>?_;refine lo ho hr (fun z=>∃Tf x20 v19,z (.l1 Tf x20) [(1,pt b4),(4,v19),(10,i6 (Z0.Methods.length:Int)),(11,i6 x20)] [Zg (TK ki) 48 v19 Tf,Zl b4 [Z6,Za,Z5,i6 Z0.Zo] 25]) (fun _ z=>⟨[],0,nl,z⟩) ?_ (fun _ hw=>(St.Tc (Zg.nil (TK ki) 48) hw));rintro _ _ _ ⟨Tf,x20,v19,m21,o,_,_,ho,hr,h⟩;refine en h ?_;refine ci ho (fun ho=>?_) fun ho=>?_;rotate_left
 ·exact fin ho hr▸rt (sO [0])
 obtain⟨t22,hc,ho⟩:=bind_some ho;refine SP.Ti see (caps:=[]) _ Zm8.h rfl rfl rfl rfl (fun w2 hP hs sub ap=>VY.ok _ _ _ _ _ _ hc w2 hP sub (ap.get 0 rfl) (ap.get 1 rfl) (ap.get 2 rfl)) (SP.k1 fun v23=>?_);clear hc;refine gg ?_;refine ci ho (fun ho=>?_) fun ho=>?_
 ·exact fin ho hr▸rt (fun _ h=>sQ [0] (St.Tc (Zg.nil (TK ki) 48) h))
 refine fz 0 ?_;refine SP.Z9N (k:=(TK ki)) (xs:=[t22.1]) (vs:=[v23]) Tryz.underlying71 ZjQ.h rfl rfl rfl rfl rfl rfl (fun _ ap=>⟨Xb.Z1O (ap.get 0 rfl),trivial⟩) (fun _ ap=>⟨[v23],_,rfl,⟨_,rfl,ap.get 0 rfl⟩,rfl⟩) rfl rfl rfl (fun v26=>?_);refine fz 0 ?_;refine ap 0 0 ho fun v28 ho=>?_;exact lw ho hr (fun _ z=>⟨(Tf ++ [t22.1]),(wr (x20+1)),v28,z⟩)
shelf_lay_g SlLaysZI.n7 Ggz 7 at Tryz 84 as Tryz.keys84
shelf_lay_g SlLaysZI.n6 Ggz 6 at Tryz 83 as Tryz.sorted83
open Go.RowKit Go.Maps Go.Sort Go.Shelf in
theorem Zl9(m:Nat):AnyZI.SortsIn Tryz.prog Tryz.sorted83_ren Fence.wide m:=
  ⟨fun blk off cap ss W hH hblk hsz=>callsIn_wide.2 (AnyM.slices_Sort_int Tryz.sorti48 blk off cap ss W hH hblk hsz),
   fun p cap W=>callsIn_wide.2 (AnyM.slices_Sort_int_none Tryz.sorti48 p cap W)⟩
theorem ZdC(b:Nat)(w:World)(hV:Hp):XL Tryz.prog 84 #[.map (some b)] em hV w (fun v=>HO.ex fun c:Nat=>HO.Yr (v=.func (.func 140) #[] #[.pointer (some ⟨c,0,none⟩)]) (HO.Yk [Zl c [.map (some b)] 126])):=by
  have cK:CallsIn Fence.wide 5 Tryz.prog 84 #[.map (some b)] w fun e w'=>e=.returned (.func (.func 140) #[] #[.pointer (some ⟨w.heap.size,0,none⟩)])∧w'=w.alloc (.cells #[.map (some b)] 126):=AnyZI.keys_in Tryz.keys84 Fence.wide 5 trivial rfl (some b) w;refine((callsIn_wide (n:=5)).1 cK).mono fun e w' ⟨he,hw⟩=>?_;subst he;subst hw;exact St.done (os:=[Zl w.heap.size [.map (some b)] 126]) (fun a b p s=>⟨_,rfl,s⟩) ((St.begin (All.nil hV)).box [.map (some b)] 126)
open Go.RowKit Go.Maps Go.Sort Go.Shelf in
theorem Zbm{β:Type}{kv:β→Value}{m:List (Int×β)}{b c:Nat}(ok:Z3p m=true)(w:World)(h1:(Zl c [.map (some b)] 126).p (hp w) (hp w))(h2:(Z06 b .i64 kv m).p (hp w) (hp w)) :
    XL Tryz.prog 83 #[.func (.func 140) #[] #[.pointer (some ⟨c,0,none⟩)]] em (hp w) w (fun r=>HO.ex fun u:Value=>HO.Yr (r=u) (HO.Yk [Zg (Uz .i64) 3 u (KC m)])):=by
  obtain⟨D0,hown,hperm,hsize⟩:=ZlV Tryz.underlying3 h2 ok;have hcell:w.heap[c]?=some (.cells #[.map (some b)] 126 (0,0)):=h1;have hlen:m.length≤1000000:=by simp only[Z3p,Bool.and_eq_true,decide_eq_true_eq]at ok;exact ok.2
  have hseq:SeqGives Fence.wide 2 Tryz.prog 140 #[.pointer (some ⟨c,0,none⟩)] encZ (fun ss=>ss.Perm (intKeys D0)) (Maps.size D0) w:=
    AnyZI.keys_gives (ρ:=Tryz.keys84_ren) { Tryz.keys84 with } Fence.wide _ trivial rfl (by omega) c b m.length D0 _ (Array.getElem?_eq_some_iff.1 hcell).1 (by simp[World.cell?,hcell]) hown
  have cS:=AnyZI.sorted_in Tryz.sorted83 Fence.wide 5 trivial trivial trivial trivial rfl (by omega) (Zl9 _) (enters_of Tryz.func48 (by kernel_rfl) rfl) 140 #[.pointer (some ⟨c,0,none⟩)] trivial (enters_of Tryz.func140 (by kernel_rfl) rfl) _ _ (by rw[hsize];simp only[maxLen];omega) (by rw[hsize];omega) _ hseq;change CallsIn _ _ Tryz.prog 83 _ _ _ at cS;refine((callsIn_wide (n:=5)).1 cS).mono fun e w' ⟨v,ss,he,hS,hrow,hnil,hb⟩=>?_;subst he;have e1:(ss.mergeSort fun x y=>decide (x≤y))=KC m:=mergeSort_of_perm_i (hS.trans hperm);have e2:ss.length=(KC m).length:=by rw[←e1,List.length_mergeSort]
  rw[e1,e2]at hrow;exact ZeW (k:=Uz .i64) hrow hb (ZaS _)
inductive XJ.S where
  |start
  |l1 (x6:Int)
def XJ.F(s_0:List Int)(v_1:Int):XJ.S→Option (XJ.S⊕Int)
  | .start=>some (.inl (.l1 0))
  | .l1 x6=>if x6<(s_0.length:Int)then((elt s_0 x6).bind fun x10=>if v_1=x10 then(some (.inr x6))else(some (.inl (.l1 (IntKind.i64.wrap (x6+1))))))else(some (.inr (-1)))
def XJ.f(s_0:List Int)(v_1:Int):Option Int:=Zw (XJ.F s_0 v_1) .start
theorem XJ.ok{s_0 v_1 X4}(r)(H:XJ.f s_0 v_1=some r):Ok Tryz.prog 141 [X4,i6 v_1] [Z9 ki X4 s_0] fun v=>HO.pure (v=i6 r):=by
 refine oq 19 Tryz.func141 fun w hV see pb=>?_;obtain⟨m0,o,ho,hr⟩:=rn H;refine lo ho hr (fun z=>∃x6,z (.l1 x6) [(0,X4),(1,i6 v_1),(7,i6 (s_0.length:Int)),(8,i6 x6)] []) (fun _ z=>⟨0,z⟩) ?_;rintro _ _ _ ⟨x6,m7,o,_,_,ho,hr,h⟩;refine en h ?_;refine ci ho (fun ho=>?_) fun ho=>?_
 ·refine ip 0 ho fun x10 ho p8=>?_;refine ci ho (fun ho=>?_) fun ho=>?_
  ·exact fin ho hr▸rt
  exact lw ho hr (fun _ z=>⟨(wr (x6+1)),z⟩)
 exact fin ho hr▸rt
def VX.f(s_0:List Int)(v_1:Int):Option Bool:=
  (XJ.f s_0 v_1).bind fun t2=>some (decide (t2≥0))
theorem VX.ok{s_0 v_1 X4}(r)(ho:VX.f s_0 v_1=some r):Ok Tryz.prog 85 [X4,i6 v_1] [Z9 ki X4 s_0] fun v=>HO.pure (v=.bool r):=by
 refine oq 9 Tryz.func85 fun w hV see pb=>?_;refine kv XJ.ok ho fun t2 ho=>?_;exact sI ho▸rt
inductive Yp.S where
  |start
  |l1 (t6:(List (List Int))×Int) (Z5X:List (Int×Int)) (KG:Int)
  |l2 (t6:(List (List Int))×Int) (TR:List (Int×Int)) (Td:List Int)
  |l3 (t6:(List (List Int))×Int) (TR:List (Int×Int)) (Td:List Int) (Z1I:Int)
  |l4 (t6:(List (List Int))×Int) (Td:List Int) (Ut:Int) (JG Z6E:List (Int×Int))
  |p5 (t6:(List (List Int))×Int) (Td:List Int) (Ut:Int) (JG:List (Int×Int)) (Z2E ZiJ:Int) (Z9T:List (Int×Int))
def Yp.j1(Z0:Zc)(t6:(List (List Int))×Int)(TR:List (Int×Int))(Td:List Int)(Ut:Int):Option (List Yp.S⊕((List Int)×Int)):=
  if Ut<0 then(some (.inr ([],110)))else(some (.inl [.l4 t6 Td Ut (Z23 TR Ut) (Z23 TR Ut)]))
def Yp.F(Z0:Zc):Yp.S→Option (List Yp.S⊕((List Int)×Int))
  | .start=>(Ui.f Z0).bind fun t6=>if t6.2≠0 then(some (.inr ([],t6.2)))else(some (.inl [.l1 t6 ([]:List (Int×Int)) 0]))
  | .l1 t6 Z5X KG=>if KG<(t6.1.length:Int)then((elt t6.1 KG).bind fun Z34=>some (.inl [.l1 t6 (Z2W Z5X KG (Z34.length:Int)) (IntKind.i64.wrap (KG+1))]))else(some (.inl [.l2 t6 Z5X []]))
  | .l2 t6 TR Td=>if(TR.length:Int)>0 then(if Z3p TR=true then(some (.inl [.l3 t6 TR Td 0]))else none)else(some (.inr (Td,0)))
  | .l3 t6 TR Td Z1I=>if Z1I<((KC TR).length:Int)then((elt (KC TR) Z1I).bind fun Zfl=>if((Jw TR Zfl).getD 0)=0 then(Yp.j1 Z0 t6 TR Td Zfl)else(some (.inl [.l3 t6 TR Td (IntKind.i64.wrap (Z1I+1))])))else(Yp.j1 Z0 t6 TR Td (-1))
  | .l4 t6 Td Ut JG Z6E=>if Z6E.isEmpty=true then(if(Td.length + [Ut].length)*8≤140737488355328 then(some (.inl [.l2 t6 JG (Td ++ [Ut])]))else none)else some (.inl ((picks Z6E).map (fun z =>.p5 t6 Td Ut JG z.1.1 z.1.2 z.2)))
  | .p5 t6 Td Ut JG Z2E ZiJ Z9T=>(elt t6.1 Z2E).bind fun ZmT=>(VX.f ZmT Ut).bind fun ZmU=>if ZmU=true then(if(JG.map (fun p=>p.1)).Nodup∧(Jw JG Z2E).isSome=true then(some (.inl [.l4 t6 Td Ut (mup JG Z2E (IntKind.i64.wrap (((Jw JG Z2E).getD 0)-1))) (mup Z9T Z2E (IntKind.i64.wrap (((Jw JG Z2E).getD 0)-1)))]))else none)else(some (.inl [.l4 t6 Td Ut JG Z9T]))
def Yp.f(Z0:Zc):Option ((List Int)×Int):=Z2p (Yp.F Z0) .start
theorem Yp.ok{Z0 Z6 Za Z5}(r)(H:Yp.f Z0=some r):Ok Tryz.prog 36 [.agg #[Z6,Za,Z5,i6 Z0.Zo]] [Z9 Z4 Z6 Z0.ZA,Z9 Z4 Za Z0.Pool,Z9 Zd Z5 Z0.Methods] fun v=>HO.ex fun u0:Value=>HO.Yr (v=.tuple #[u0,i6 r.2]) (HO.Yk [Zg ki 3 u0 r.1]):=by
 refine oq 77 Tryz.func36 fun w hV see pb=>?_;obtain⟨n0,hi⟩:=Z2X.1 H;obtain⟨m0,o,hm0,ho,hr⟩:=Z0v hi;clear hi;refine gg ?_;refine bx fun b4=>?_;refine k1 Ui.ok ho fun t6 ho v7=>?_;refine ci ho (fun ho=>?_) fun ho=>?_
 ·obtain rfl:=sI ho;obtain rfl:_=r:=hr;exact QE.rt (fun _ h=>sQ [0] (nO ki 3 h))
 refine SP.makeMap .i64 (fun z:Int=>Value.int .i64 z) rfl rfl (fun b10=>gg ?_);obtain rfl:=sI ho;refine CP.loop (fun cl1 a w2=>∃Z5X:List (Int×Int),∃KG:Int,cl1≤m0∧Uw (Yp.F Z0) cl1 (.l1 t6 Z5X KG) r∧Env ⟨77,[]⟩ [(4,v7),(6,.map (some b10)),(23,v7),(24,i6 (t6.1.length:Int)),(25,i6 KG)] a∧St w em hV [] [Z06 b10 .i64 (fun z:Int=>Value.int .i64 z) Z5X,Zg (TK ki) 48 v7 t6.1] w2) m0 (fun a w2 ha hw=>⟨([]:List (Int×Int)),0,Nat.le_refl _,(Jd hr),ha.sub sb,(St.V5 [] rfl (sQ [0,1] hw))⟩) ?_;clear hr;rintro cl1 a w2 ⟨Z5X,KG,Z9e,hi,ha,hw⟩;obtain⟨ZiK,o,ZwK,ho,hr⟩:=Z0v hi;refine CP.app ha hw ?_;clear ha hw a w2 hi;refine gg ?_;refine ci ho (fun ho=>?_) fun ho=>?_
 ·obtain⟨Z34,Z9U,ho⟩:=Yu ho;refine SP.Wo (fun w2 hw=>Zg.whole (St.own 1 rfl see.sub see.dj hw)) Tryz.underlying71 ZiA.h Z9U.1 Z9U.2 rfl rfl rfl rfl (fun ZiL Zcz=>?_);refine SP.Z5m (j:=KG) see 1 0 rfl Z9U.2 Zcz (fun _ _ ⟨v0_,e,p0_⟩=>⟨v0_,by subst e;rfl,p0_⟩) Tryz.underlying48 rfl rfl rfl (fun Z5Y=>gg ?_);refine SP.mapUpdate see 0 rfl Tryz.underlying126 Tryz.underlying3 rfl rfl rfl rfl (gg ?_);obtain rfl:=sI ho;exact QE.lower ZiK (by omega) fun a w2 ha hw=>⟨(Z2W Z5X KG (Z34.length:Int)),(wr (KG+1)),(by omega),(Jd hr),ha.sub sb,(St.V5 [] rfl hw)⟩
 obtain rfl:=sI ho;refine CP.loop (fun cl2 a w2=>∃TR:List (Int×Int),∃Td:List Int,∃Z5Z:Value,cl2≤ZiK∧Uw (Yp.F Z0) cl2 (.l2 t6 TR Td) r∧Env ⟨77,[]⟩ [(4,v7),(6,.map (some b10)),(9,Z5Z)] a∧St w em hV [] [Zg ki 3 Z5Z Td,Z06 b10 .i64 (fun z:Int=>Value.int .i64 z) TR,Zg (TK ki) 48 v7 t6.1] w2) ZiK (fun a w2 ha hw=>⟨Z5X,[],nl,Nat.le_refl _,(Jd hr),ha.sub sb,(nO ki 3 hw)⟩) ?_;clear hr;rintro cl2 a w2 ⟨TR,Td,Z5Z,Zsj,hi,ha,hw⟩;obtain⟨ZiM,o,ZwL,ho,hr⟩:=Z0v hi;refine CP.app ha hw ?_;clear ha hw a w2 hi;refine gg ?_;refine SP.val (Val.ZtN see 1 rfl Tryz.underlying126 rfl) rfl rfl rfl (gg ?_);refine ci (ht:=id) ho (fun ho=>?_) fun ho=>?_;rotate_left
 ·obtain rfl:=sI ho;obtain rfl:_=r:=hr;exact QE.rt (fun _ h=>sQ [0] h)
 refine go ?_;refine CP.join (fun a w2=>∃Ut:Int,∃(Z60:Nat) (o:(List Yp.S⊕((List Int)×Int))),Z60≤ZiM∧Yp.j1 Z0 t6 TR Td Ut=some o∧ZeP (Yp.F Z0) Z60 r o∧Env ⟨77,[]⟩ [(4,v7),(6,.map (some b10)),(9,Z5Z),(10,i6 Ut)] a∧St w em hV [] [Zg ki 3 Z5Z Td,Z06 b10 .i64 (fun z:Int=>Value.int .i64 z) TR,Zg (TK ki) 48 v7 t6.1] w2) ?_ ?_;rotate_left
 ·refine gg ?_;refine SP.Ti see (caps:=[]) _ Zu3.h rfl rfl rfl rfl (fun w2 hP hs sub ap=>ZdC _ w2 hP) (SP.k1 fun ZBO=>?_);obtain⟨hb,ho⟩:=Xn ho;refine SP.Z1M see (caps:=[]) _ Zu4.h rfl rfl rfl rfl (fun w2 hs=>Zbm hb w2 (St.own 0 rfl see.sub see.dj hs) (St.own 2 rfl see.sub see.dj hs)) (fun v a a2 b ⟨v201,e,h⟩=>⟨v201,e,(Sep.Z3U (fun _=>Zg.flip (fun _ _ _ _ h=>h)) (fun _=>Sep.Z5E)) h⟩) (SP.k1 fun v201=>?_);clear hb;refine gg ?_;obtain rfl:=sI ho;refine CP.loop (fun cl3 a w2=>∃Z1I:Int,cl3≤ZiM∧Uw (Yp.F Z0) cl3 (.l3 t6 TR Td Z1I) r∧Env ⟨77,[]⟩ [(4,v7),(6,.map (some b10)),(9,Z5Z),(10,i6 (-1)),(40,v201),(41,i6 ((KC TR).length:Int)),(42,i6 Z1I)] a∧St w em hV [] [Zg ki 3 v201 (KC TR),Zg ki 3 Z5Z Td,Z06 b10 .i64 (fun z:Int=>Value.int .i64 z) TR,Zg (TK ki) 48 v7 t6.1] w2) ZiM (fun a w2 ha hw=>⟨0,Nat.le_refl _,(Jd hr),ha.sub sb,(sQ [0,2,3,4] hw)⟩) ?_;clear hr;rintro cl3 a w2 ⟨Z1I,Zsk,hi,ha,hw⟩;obtain⟨ZiN,o,ZwM,ho,hr⟩:=Z0v hi;refine CP.app ha hw ?_;clear ha hw a w2 hi;refine gg ?_;refine ci ho (fun ho=>?_) fun ho=>?_
  ·obtain⟨Zfl,Z9V,ho⟩:=Yu ho;refine SP.Wo (fun w2 hw=>Zg.whole (St.own 0 rfl see.sub see.dj hw)) Tryz.underlying48 V4.h Z9V.1 Z9V.2 rfl rfl rfl rfl (fun ZvY ZmV=>?_);refine SP.val (Val.Vu (off:=0) (k:=ki) (fun w2 hw=>Zg.whole (St.own 0 rfl see.sub see.dj hw)) Z9V.2 ZmV (fun _ _ e=>by subst e;rfl) Tryz.underlying3 rfl rfl) rfl rfl rfl (gg ?_);refine SP.val (Val.lookup (z0:=0) see 2 rfl Tryz.underlying126 Tryz.underlying3 ZiB.h (by kernel_rfl) rfl rfl) rfl rfl rfl (gg ?_);refine ci ho (fun ho=>?_) fun ho=>?_
   ·exact QE.meet fun a w2 ha hw=>⟨Zfl,ZiN,_,(by omega),ho,hr,ha.sub sb,(sQ [1,2,3] hw)⟩
   obtain rfl:=sI ho;exact QE.lower ZiN (by omega) fun a w2 ha hw=>⟨(wr (Z1I+1)),(by omega),(Jd hr),ha.sub sb,hw⟩
  exact QE.meet fun a w2 ha hw=>⟨(-1),ZiN,_,(by omega),ho,hr,ha.sub sb,(sQ [1,2,3] hw)⟩
 rintro a w2 ⟨Ut,Z60,o,Zla,ho,hr,ha,hw⟩;refine CP.app ha hw ?_;clear ha hw a w2;refine gg ?_;refine ci ho (fun ho=>?_) fun ho=>?_
 ·obtain rfl:=sI ho;obtain rfl:_=r:=hr;exact QE.rt (fun _ h=>sQ [0] (nO ki 3 h))
 refine SP.delete see 1 rfl Tryz.underlying126 Tryz.underlying3 rfl rfl rfl (gg ?_);refine so [1,0,2] ?_;refine SP.range see Tryz.underlying126 rfl rfl rfl (fun ZmW=>gg ?_);obtain rfl:=sI ho;refine CP.loop (fun cl4 a w2=>∃JG:List (Int×Int),∃Z6E:List (Int×Int),cl4≤Z60∧Uw (Yp.F Z0) cl4 (.l4 t6 Td Ut JG Z6E) r∧Env ⟨77,[]⟩ [(4,v7),(6,.map (some b10)),(9,Z5Z),(10,i6 Ut),(57,pt ZmW)] a∧St w em hV [] [K7 ZmW b10 .i64 (fun z:Int=>Value.int .i64 z) JG Z6E none,Zg ki 3 Z5Z Td,Zg (TK ki) 48 v7 t6.1] w2) Z60 (fun a w2 ha hw=>⟨(Z23 TR Ut),(Z23 TR Ut),Nat.le_refl _,(Jd hr),ha.sub sb,hw⟩) ?_;clear hr;rintro cl4 a w2 ⟨JG,Z6E,ZAI,hi,ha,hw⟩;obtain⟨ZvZ,o,ZwN,ho,hr⟩:=Z0v hi;refine CP.app ha hw ?_;clear ha hw a w2 hi;refine gg ?_;rcases TD ho with ⟨hc,ho⟩|⟨hc,ho⟩
 ·refine SP.next see 0 rfl rfl rfl rfl (fun _=>gg ?_) (fun j k v hj=>by rw[List.isEmpty_iff.1 hc]at hj;simp at hj);refine CP.K4 rfl rfl (gg ?_);refine li (h:=fun _=>id) ki [Ut] fun v232=>?_;refine fz 0 ?_;refine ap 1 0 ho fun v234 ho=>?_;obtain rfl:=sI ho;exact QE.lower ZvZ (by omega) fun a w2 ha hw=>⟨JG,(Td ++ [Ut]),v234,(by omega),(Jd hr),ha.sub sb,(St.V5 [] rfl (sQ [1,0,2] (St.Z8G 0 rfl K7.Zp6 hw)))⟩
 refine SP.next see 0 rfl rfl rfl rfl (fun h0=>absurd (by rw[h0];rfl) hc) (fun j Z2E ZiJ hj=>?_);obtain rfl:=sI ho;replace hr:=hr.2 _ (List.mem_map_of_mem (ZaP hj));obtain⟨ZmY,o,ZwO,ho,hr⟩:=Z0v hr;clear hj hc;generalize List.eraseIdx Z6E j=Z9T at ho ⊢
 refine gg ?_;refine CP.W9 rfl rfl (gg ?_);refine SP.val (Val.entry see 0 (p:=(Z2E,ZiJ)) rfl rfl) rfl rfl rfl (gg ?_);obtain⟨ZmT,Z9W,ho⟩:=Yu ho;refine SP.Wo (fun w2 hw=>Zg.whole (St.own 2 rfl see.sub see.dj hw)) Tryz.underlying71 ZiA.h Z9W.1 Z9W.2 rfl rfl rfl rfl (fun ZBP ZmZ=>?_);refine SP.Z5m (j:=Z2E) see 2 0 rfl Z9W.2 ZmZ (fun _ _ ⟨v0_,e,p0_⟩=>⟨v0_,by subst e;rfl,p0_⟩) Tryz.underlying48 rfl rfl rfl (fun ZBQ=>gg ?_);refine kv VX.ok ho fun ZmU ho=>?_;refine cb ho (fun ho=>?_) fun ho=>?_
 ·refine SP.val (Val.Zkv (z0:=0) see 0 rfl Tryz.underlying126 Tryz.underlying3 ZiB.h (by kernel_rfl) rfl rfl) rfl rfl rfl (gg ?_);obtain⟨hb,ho⟩:=Xn ho;refine SP.ZeV see 0 rfl Tryz.underlying126 Tryz.underlying3 hb rfl rfl rfl rfl ?_;clear hb;refine gg ?_;obtain rfl:=sI ho;exact QE.lower ZmY (by omega) fun a w2 ha hw=>⟨(mup JG Z2E (wr (((Jw JG Z2E).getD 0)-1))),(mup Z9T Z2E (wr (((Jw JG Z2E).getD 0)-1))),(by omega),(Jd hr),ha.sub sb,(St.V5 [] rfl hw)⟩
 obtain rfl:=sI ho;exact QE.lower ZmY (by omega) fun a w2 ha hw=>⟨JG,Z9T,(by omega),(Jd hr),ha.sub sb,(St.V5 [] rfl (St.Z8G 0 rfl K7.forget hw))⟩
def Z0y.f(Z0:Zc):Option Int:=
  (Yp.f Z0).bind fun t6=>some t6.2
theorem Z0y.ok{Z0 Z6 Za Z5}(r)(ho:Z0y.f Z0=some r):Ok Tryz.prog 14 [.agg #[Z6,Za,Z5,i6 Z0.Zo]] [Z9 Z4 Z6 Z0.ZA,Z9 Z4 Za Z0.Pool,Z9 Zd Z5 Z0.Methods] fun v=>HO.pure (v=i6 r):=by
 refine oq 11 Tryz.func14 fun w hV see pb=>?_;refine bx fun b4=>?_;refine k1 Yp.ok ho fun t6 ho v7=>?_;exact sI ho▸rt
inductive Y4.S where
  |start
  |l1 (UG:List Int) (Xt:Int)
def Y4.j2(x_0:List Int)(V6:Int)(t3:Int×Int):Option (Y4.S⊕(List Int)):=
  if(0:Int)≤(IntKind.i64.wrap t3.2)∧(8:Int)*(IntKind.i64.wrap t3.2)≤281474976710656∧((IntKind.i64.wrap t3.2):Int)≤9223372036854775807 then(some (.inl (.l1 (x_0.take (List.replicate (IntKind.i64.wrap t3.2:Int).toNat 0:List Int).length++(List.replicate (IntKind.i64.wrap t3.2:Int).toNat 0:List Int).drop x_0.length) ((min x_0.length (List.replicate (IntKind.i64.wrap t3.2:Int).toNat 0:List Int).length:Nat):Int))))else none
def Y4.j1(x_0:List Int)(V6:Int)  : Option (Y4.S⊕(List Int)):=
  (Un.f (IntKind.u64.wrap (x_0.length:Int)) (IntKind.u64.wrap V6)).bind fun t3=>if((decide (t3.1>0))||(decide (t3.2>9223372036854775807)))=true then(none)else(Y4.j2 x_0 V6 t3)
def Y4.F(x_0:List Int)(V6:Int):Y4.S→Option (Y4.S⊕(List Int))
  | .start=>if V6<0 then(none)else(Y4.j1 x_0 V6)
  | .l1 UG Xt=>if Xt<(UG.length:Int)then(if(0:Int)≤Xt∧Xt≤(UG.length:Int)then(if(0:Int)≤Xt∧Xt≤(UG.length:Int)then(some (.inl (.l1 (UG.take (Xt:Int).toNat++UG.take (min (Xt:Int).toNat (UG.length-(Xt:Int).toNat))++UG.drop ((Xt:Int).toNat+min (Xt:Int).toNat (UG.length-(Xt:Int).toNat))) (IntKind.i64.wrap (Xt+((min (Xt:Int).toNat (UG.length-(Xt:Int).toNat):Nat):Int))))))else none)else none)else(some (.inr UG))
def Y4.f(x_0:List Int)(V6:Int):Option (List Int):=Zw (Y4.F x_0 V6) .start
theorem Y4.ok{x_0 V6 Z3W}(r)(H:Y4.f x_0 V6=some r):Ok Tryz.prog 144 [Z3W,i6 V6] [Z9 ki Z3W x_0] fun v=>HO.ex fun u0:Value=>HO.Yr (v=u0) (HO.Yk [Zg ki 3 u0 r]):=by
 refine oq (h:=fun _ _ _=>id) 48 Tryz.func144 fun w hV see pb=>?_;obtain⟨m0,o,ho,hr⟩:=rn H;refine go ?_;refine ji hr (fun z=>z (Y4.j1 x_0 V6) [(0,Z3W),(1,i6 V6)] []) ?_ ?_;rotate_left
 ·refine gg ?_;refine ci ho (fun ho=>?_) fun ho=>?_
  ·cases ho
  exact mi ho hr (fun _ z=>z)
 rintro _ _ ⟨m2,o,_,ho,hr,h⟩;refine en h ?_;obtain⟨t3,hc,ho⟩:=bind_some ho;refine SP.Z05 see (caps:=[]) (.tuple #[.int .u64 t3.1,.int .u64 t3.2]) ZjT.h rfl rfl rfl rfl (fun w2 hP hs sub ap=>Un.ok _ _  _ hc w2 hP sub ) ?_;clear hc;refine go ?_;refine ji hr (fun z=>z (Y4.j2 x_0 V6 t3) [(0,Z3W),(6,.int .u64 t3.2)] []) ?_ ?_;rotate_left
 ·refine gg ?_;refine sj 3 [0,6] 26 ho ?_ ?_
  ·refine gg ?_;refine cb ho (fun ho=>?_) fun ho=>?_
   ·cases ho
   exact mi ho hr (fun _ z=>z)
  refine bb 23 (fun UF=>?_) fun UF=>?_
  ·exact jb (Vi UF)
  exact jb (Vj UF rfl)
 rintro _ _ ⟨m6,o,_,ho,hr,h⟩;refine en h ?_;obtain⟨hb,ho⟩:=Xn ho;refine SP.ZeQ (k:=ki) (z:=0) Tryz.underlying48 ZiB.h rfl (fun _=>rfl) rfl rfl rfl rfl hb (fun v7=>?_);clear hb;refine gg ?_;refine SP.Zgg see 0 rfl 0 rfl Tryz.underlying48 V4.h rfl rfl rfl rfl rfl (gg ?_);refine lo ho hr (fun z=>∃UG Xt v13,z (.l1 UG Xt) [(7,v13),(8,i6 Xt)] [Zg ki 3 v13 UG]) (fun _ z=>⟨(x_0.take (List.replicate (wr t3.2:Int).toNat 0:List Int).length++(List.replicate (wr t3.2:Int).toNat 0:List Int).drop x_0.length),((min x_0.length (List.replicate (wr t3.2:Int).toNat 0:List Int).length:Nat):Int),v7,z⟩) ?_ (hb:=pe []);rintro _ _ _ ⟨UG,Xt,v13,m15,o,_,_,ho,hr,h⟩;refine en h ?_;refine ci ho (fun ho=>?_) fun ho=>?_;rotate_left
 ·exact fin ho hr▸rt (sO [0])
 refine dr ?_;refine DA.phase (fun _=>true) (fun _=>True) ?_;refine DT.take 0 rfl rfl rfl rfl (by kernel_rfl) (fun _ _ _ h=>h) (Val.move rfl) (fun _ _=>trivial) ?_;refine DT.take 1 rfl rfl rfl rfl (by kernel_rfl) (fun _ _ _ h=>h) (Val.move rfl) (fun _ _=>trivial) ?_;refine DT.take 2 rfl rfl rfl rfl (by kernel_rfl) (fun _ _ _ h=>h) (Val.move rfl) (fun _ _=>trivial) ?_;refine DT.take 4 rfl rfl rfl rfl (by kernel_rfl) (fun _ _ _ h=>h) (Val.move rfl) (fun _ _=>trivial) ?_;refine DT.take 5 rfl rfl rfl rfl (by kernel_rfl) (fun _ _ _ h=>h) (Val.move rfl) (fun _ _=>trivial) ?_;refine DT.list (l2 := #[true,true,true,false,true,true,false,false,false,false]) (by kernel_rfl) ?_;refine DT.free ?_;obtain⟨ZiF,ho⟩:=Xn ho;obtain⟨ZiG,ho⟩:=Xn ho;refine DA.ph 0 7 ?_;refine DT.tv 3 rfl (Val.sliceFrom see 0 rfl Tryz.underlying48 V4.h rfl rfl ZiF) ?_;refine DT.tv 6 rfl (Val.sliceTo see 0 rfl Tryz.underlying48 V4.h rfl rfl ZiG) ?_;refine dn ?_;refine d1 7 ?_;refine SP.Zc5 see 0 rfl Tryz.underlying48 V4.h rfl (by omega) rfl rfl rfl rfl (gg ?_);refine d1 8 ?_;refine d1 9 ?_;refine dz ?_;exact lw ho hr (fun _ z=>⟨(UG.take (Xt:Int).toNat++UG.take (min (Xt:Int).toNat (UG.length-(Xt:Int).toNat))++UG.drop ((Xt:Int).toNat+min (Xt:Int).toNat (UG.length-(Xt:Int).toNat))),(wr (Xt+((min (Xt:Int).toNat (UG.length-(Xt:Int).toNat):Nat):Int))),v13,z⟩)
inductive Wx.S where
  |start
  |l1 (t2:(List YO)×Int) (l32:List Int) (x34:Int)
  |l2 (t2:(List YO)×Int) (x34:Int) (Uq:YO) (l45:List Int) (x47:Int)
def Wx.F(ZC:List Z7):Wx.S→Option (Wx.S⊕((List Int)×Int))
  | .start=>(Yq.f ZC).bind fun t2=>if t2.2≠0 then(some (.inr ([],t2.2)))else((Y4.f [1] (ZC.length:Int)).bind fun t8=>some (.inl (.l1 t2 t8 0)))
  | .l1 t2 l32 x34=>if x34<(t2.1.length:Int)then((elt t2.1 x34).bind fun Uq=>some (.inl (.l2 t2 x34 Uq l32 (IntKind.i64.wrap (Uq.From+1)))))else(some (.inr (l32,0)))
  | .l2 t2 x34 Uq l45 x47=>if x47≤Uq.To then((elt l45 x47).bind fun x50=>(elt l45 x47).bind fun x52=>some (.inl (.l2 t2 x34 Uq (l45.set x47.toNat (IntKind.i64.wrap (x50*Uq.Turns))) (IntKind.i64.wrap (x47+1)))))else(some (.inl (.l1 t2 l45 (IntKind.i64.wrap (x34+1)))))
def Wx.f(ZC:List Z7):Option ((List Int)×Int):=Zw (Wx.F ZC) .start
theorem Wx.ok{ZC Yt}(r)(H:Wx.f ZC=some r):Ok Tryz.prog 89 [Yt] [Z9 Z8 Yt ZC,Xi ZY 0 XM] fun v=>HO.ex fun u0:Value=>HO.Yr (v=.tuple #[u0,i6 r.2]) (HO.Yk [Zg ki 3 u0 r.1]):=by
 refine oq 47 Tryz.func89 fun w hV see pb=>?_;obtain⟨m0,o,ho,hr⟩:=rn H;refine k1 Yq.ok ho fun t2 ho v3=>?_;refine ci ho (fun ho=>?_) fun ho=>?_
 ·exact fin ho hr▸rt (fun _ h=>sQ [0] (nO ki 3 h))
 refine li ki [1] fun v6=>?_;obtain⟨t8,hc,ho⟩:=bind_some ho;refine SP.Z1M see (caps:=[]) _ Zpm.h rfl rfl rfl rfl (fun w2 hs=>Y4.ok _ hc w2 (hp w2) (Sub.refl _) (aS (Zg.read (St.own 0 rfl see.sub see.dj hs) (Sub.refl _) (Sub.refl _)) (All.nil _))) (fun v a a2 b ⟨v9,e,h⟩=>⟨v9,e,(Sep.Z3U (fun _=>Zg.flip (fun _ _ _ _ h=>h)) (fun _=>Sep.Z5E)) h⟩) (SP.k1 fun v9=>?_);clear hc;refine gg ?_;refine lo ho hr (fun z=>∃l32 x34 v33,z (.l1 t2 l32 x34) [(6,v33),(22,v3),(23,i6 (t2.1.length:Int)),(24,i6 x34)] [Zg ki 3 v33 l32,Zg Vt 111 v3 t2.1]) (fun _ z=>⟨t8,0,v9,z⟩) ?_ (sO [0,2]) (hb:=pe [Xi ZY 0 XM]);rintro _ _ _ ⟨l32,x34,v33,m35,o,_,_,ho,hr,h⟩;refine en h ?_;refine ci ho (fun ho=>?_) fun ho=>?_;rotate_left
 ·exact fin ho hr▸rt (sO [0])
 obtain⟨Uq,ZcC,ho⟩:=Yu ho;refine SP.Wo (fun w2 hw=>Zg.whole (St.own 1 rfl see.sub see.dj hw)) Tryz.underlying64 Zbr.h ZcC.1 ZcC.2 rfl rfl rfl rfl (fun p36 Zsl=>?_);refine SP.val (Val.ZbR see 1 rfl ZcC.2 Zsl (fun _ _ e=>e) Tryz.underlying111 rfl Zbr.h rfl) rfl rfl rfl ?_;refine al fun b38=>?_;refine st 0 ?_;refine lo ho hr (fun z=>∃l45 x47 v46,z (.l2 t2 x34 Uq l45 x47) [(6,v46),(8,pt b38),(9,i6 x47),(22,v3),(23,i6 (t2.1.length:Int)),(24,i6 x34)] [Zl b38 [i6 Uq.From,i6 Uq.To,i6 Uq.Turns] 111,Zg ki 3 v46 l45,Zg Vt 111 v3 t2.1]) (fun _ z=>⟨l32,(wr (Uq.From+1)),v33,z⟩) ?_ (hb:=pe [Xi ZY 0 XM]);rintro _ _ _ ⟨l45,x47,v46,m48,o,_,_,ho,hr,h⟩;refine en h ?_;refine ci ho (fun ho=>?_) fun ho=>?_;rotate_left
 ·exact lw ho hr (fun _ z=>⟨l45,(wr (x34+1)),v46,z⟩) (sO [1,2])
 refine dr ?_;obtain⟨x50,ZcD,ho⟩:=Yu ho;refine DA.ghost (fun w2 hw=>let ⟨z,hz⟩:=ixC ((fun w2 hw=>Zg.whole (St.own 1 rfl see.sub see.dj hw)) w2 hw) ZcD.1 ZcD.2;⟨z,hz,hw⟩) (fun p49 Zkb=>?_);have Zsm:=Zkb.1;refine DA.ph 0 6 ?_;refine DT.tk 0 ?_;refine DT.tk 1 ?_;refine DT.tv 2 rfl (Val.Z7o Zkb Tryz.underlying48 V4.h rfl rfl) ?_;refine DT.tv 3 rfl (Val.Vu (off:=0) (k:=ki) (fun w2 hw=>Zg.whole (St.own 1 rfl see.sub see.dj hw)) ZcD.2 Zsm (fun _ _ e=>by subst e;rfl) Tryz.underlying3 rfl rfl) ?_;refine DT.tk 4 ?_;refine DT.tk 5 ?_;refine dn ?_;refine d1 6 ?_;refine d1 7 ?_;obtain⟨x52,ZcE,ho⟩:=Yu ho;refine SP.Wo (fun w2 hw=>Zg.whole (St.own 1 rfl see.sub see.dj hw)) Tryz.underlying48 V4.h ZcE.1 ZcE.2 rfl rfl rfl rfl (fun p51 Zsn=>gg ?_);refine d1 8 ?_;refine SP.Z2m (z0:=wr (x50*Uq.Turns)) (off:=0) (vs:=[i6 (wr (x50*Uq.Turns))]) see 1 rfl ZcE.2 Zsn rfl rfl V4.h rfl (fun a cs _ e=>by subst e;rfl) rfl rfl rfl (gg ?_);refine dz ?_;exact lw ho hr (fun _ z=>⟨(l45.set x47.toNat (wr (x50*Uq.Turns))),(wr (x47+1)),v46,z⟩)
inductive VA.S where
  |start
  |l1 (x10 Zh:Int)
def VA.F(Ux:List Zi):VA.S→Option (VA.S⊕Int)
  | .start=>some (.inl (.l1 0 0))
  | .l1 x10 Zh=>if Zh<(Ux.length:Int)then((elt Ux Zh).bind fun Uh=>some (.inl (.l1 (if(Uh.Kinds.length:Int)>x10 then(Uh.Kinds.length:Int)else x10) (IntKind.i64.wrap (Zh+1)))))else(some (.inr x10))
def VA.f(Ux:List Zi):Option Int:=Zw (VA.F Ux) .start
theorem VA.ok{Ux Z18}(r)(H:VA.f Ux=some r):Ok Tryz.prog 91 [Z18] [Z9 ZP Z18 Ux] fun v=>HO.pure (v=i6 r):=by
 refine oq 19 Tryz.func91 fun w hV see pb=>?_;obtain⟨m0,o,ho,hr⟩:=rn H;refine lo ho hr (fun z=>∃x10 Zh,z (.l1 x10 Zh) [(3,i6 x10),(6,Z18),(7,i6 (Ux.length:Int)),(8,i6 Zh)] []) (fun _ z=>⟨0,0,z⟩) ?_;rintro _ _ _ ⟨x10,Zh,m12,o,_,_,ho,hr,h⟩;refine en h ?_;refine ci ho (fun ho=>?_) fun ho=>?_
 ·refine ip 0 ho fun Uh ho p13=>?_;refine ZP.load see 0 rfl Tryz.underlying119 rfl Z3g.h rfl rfl rfl (fun v16=>?_);refine al (h:=fun _=>id) fun b18=>?_;refine sp 0 fun Z6D=>?_;refine st 0 ?_;refine SP.val (Val.max2 rfl rfl) rfl rfl rfl (gg ?_);exact lw ho hr (fun _ z=>⟨(if(Uh.Kinds.length:Int)>x10 then(Uh.Kinds.length:Int)else x10),(wr (Zh+1)),z⟩) (sO [])
 exact fin ho hr▸rt
def TS.f(Vb Ud UO:Int)(U5 Z0d:List Int)(UQ:Int)(U0:Bool)(U1 U2 U3:Int)(KV:List Z7)(UH:List Zi)(VQ:Int):Option (Int×Int×Int×Int×Bool×Int×Int×Int×(List Zi)):=
  some (Vb,if VQ>Ud then VQ else Ud,UO,UQ,U0,U1,U2,U3,UH)
theorem TS.ok(Vb Ud UO:Int)(U5 Z0d:List Int)(UQ:Int)(U0:Bool)(U1 U2 U3:Int)(KV:List Z7)(UH:List Zi)(VQ:Int)(WJ U7 VE V9:Value)(r:Int×Int×Int×Int×Bool×Int×Int×Int×(List Zi))(H:TS.f Vb Ud UO U5 Z0d UQ U0 U1 U2 U3 KV UH VQ=some r)(w:World)(hV:Hp)(sV:Sub hV (hp w))(h0:Xb kb hV WJ U5)(h1:Xb kb hV U7 Z0d)(h2:Xb Z8 hV VE KV)(h3:Z57.p hV)(b1:Nat)(hA:Hp)(sA:Sub hA (hp w))(dA:Dj hV hA)(hI:(HO.Yk [Zl b1 [i6 Vb,i6 Ud,i6 UO,WJ,U7,i8 UQ,.bool U0,i6 U1,i6 U2,i6 U3,VE,V9] 140,Zg ZP 119 V9 UH]).p hV hA) :
    XL Tryz.prog 90 [pt b1,i6 VQ].toArray hA hV w (fun v=>HO.Yr (v=.tuple #[]) (HO.Yk [HO.ex fun v19:Value=>HO.Yk [Zl b1 [i6 r.1,i6 r.2.1,i6 r.2.2.1,WJ,U7,i8 r.2.2.2.1,.bool r.2.2.2.2.1,i6 r.2.2.2.2.2.1,i6 r.2.2.2.2.2.2.1,i6 r.2.2.2.2.2.2.2.1,VE,v19] 140,Zg ZP 119 v19 r.2.2.2.2.2.2.2.2]])):=by
 have see:YG w hA hV:=⟨sV,dA⟩
 refine XL.of (P:=Tryz.prog) (n:=⟨15,[]⟩) Tryz.func90 rfl ⟨rfl,rfl⟩ rfl (St.K6 (os:=[Zl b1 [i6 Vb,i6 Ud,i6 UO,WJ,U7,i8 UQ,.bool U0,i6 U1,i6 U2,i6 U3,VE,V9] 140,Zg ZP 119 V9 UH]) sA (aS h0 (aS h1 (aS h2 (All.cons (x:=Z57) h3 (All.nil _))))) hI) ?_;have ho:=H;refine gg ?_;refine SP.val (Val.max2 rfl rfl) rfl rfl rfl (gg ?_);refine st 0 ?_;obtain rfl:=sI ho;exact QE.over (rs:=[]) (vs:=[]) Tryz.results90 rfl trivial (fun w2 h=>St.done (fun a b p s=>⟨rfl,s⟩) (St.shut V9 (St.group [Zl b1 [i6 Vb,i6 (if VQ>Ud then VQ else Ud),i6 UO,WJ,U7,i8 UQ,.bool U0,i6 U1,i6 U2,i6 U3,VE,V9] 140,Zg ZP 119 V9 UH] (sQ [0,1] h))))
def Z3Q.f(Vb Ud UO:Int)(U5 Z0d:List Int)(UQ:Int)(U0:Bool)(U1 U2 U3:Int)(KV:List Z7)(UH:List Zi)(KQ Z1S Z1T:Int):Option (Int×Int×Int×Int×Bool×Int×Int×Int×(List Zi)):=
  some (IntKind.i64.wrap (Vb+(IntKind.i64.wrap (KQ*Z1S))),Ud,IntKind.i64.wrap (UO+(IntKind.i64.wrap (KQ*Z1T))),UQ,U0,U1,U2,U3,UH)
theorem Z3Q.ok(Vb Ud UO:Int)(U5 Z0d:List Int)(UQ:Int)(U0:Bool)(U1 U2 U3:Int)(KV:List Z7)(UH:List Zi)(KQ Z1S Z1T:Int)(WJ U7 VE V9:Value)(r:Int×Int×Int×Int×Bool×Int×Int×Int×(List Zi))(H:Z3Q.f Vb Ud UO U5 Z0d UQ U0 U1 U2 U3 KV UH KQ Z1S Z1T=some r)(w:World)(hV:Hp)(sV:Sub hV (hp w))(h0:Xb kb hV WJ U5)(h1:Xb kb hV U7 Z0d)(h2:Xb Z8 hV VE KV)(h3:Z57.p hV)(b1:Nat)(hA:Hp)(sA:Sub hA (hp w))(dA:Dj hV hA)(hI:(HO.Yk [Zl b1 [i6 Vb,i6 Ud,i6 UO,WJ,U7,i8 UQ,.bool U0,i6 U1,i6 U2,i6 U3,VE,V9] 140,Zg ZP 119 V9 UH]).p hV hA) :
    XL Tryz.prog 92 [pt b1,i6 KQ,i6 Z1S,i6 Z1T].toArray hA hV w (fun v=>HO.Yr (v=.tuple #[]) (HO.Yk [HO.ex fun v19:Value=>HO.Yk [Zl b1 [i6 r.1,i6 r.2.1,i6 r.2.2.1,WJ,U7,i8 r.2.2.2.1,.bool r.2.2.2.2.1,i6 r.2.2.2.2.2.1,i6 r.2.2.2.2.2.2.1,i6 r.2.2.2.2.2.2.2.1,VE,v19] 140,Zg ZP 119 v19 r.2.2.2.2.2.2.2.2]])):=by
 have see:YG w hA hV:=⟨sV,dA⟩
 refine XL.of (P:=Tryz.prog) (n:=⟨32,[]⟩) Tryz.func92 rfl ⟨rfl,rfl⟩ rfl (St.K6 (os:=[Zl b1 [i6 Vb,i6 Ud,i6 UO,WJ,U7,i8 UQ,.bool U0,i6 U1,i6 U2,i6 U3,VE,V9] 140,Zg ZP 119 V9 UH]) sA (aS h0 (aS h1 (aS h2 (All.cons (x:=Z57) h3 (All.nil _))))) hI) ?_;have ho:=H;refine gg ?_;refine st 0 ?_;refine st 0 ?_;obtain rfl:=sI ho;exact QE.over (rs:=[]) (vs:=[]) Tryz.results92 rfl trivial (fun w2 h=>St.done (fun a b p s=>⟨rfl,s⟩) (St.shut V9 (St.group [Zl b1 [i6 (wr (Vb+(wr (KQ*Z1S)))),i6 Ud,i6 (wr (UO+(wr (KQ*Z1T)))),WJ,U7,i8 UQ,.bool U0,i6 U1,i6 U2,i6 U3,VE,V9] 140,Zg ZP 119 V9 UH] (sQ [0,1] h))))
def WW.f(Vb Ud UO:Int)(U5 Z0d:List Int)(UQ:Int)(U0:Bool)(U1 U2 U3:Int)(KV:List Z7)(UH:List Zi)(KQ Z1S Z1T:Int):Option (Int×Int×Int×Int×Bool×Int×Int×Int):=
  some (IntKind.i64.wrap (Vb+(IntKind.i64.wrap (KQ*Z1S))),Ud,IntKind.i64.wrap (UO+(IntKind.i64.wrap (KQ*Z1T))),UQ,U0,U1,U2,U3)
theorem WW.ok(Vb Ud UO:Int)(U5 Z0d:List Int)(UQ:Int)(U0:Bool)(U1 U2 U3:Int)(KV:List Z7)(UH:List Zi)(KQ Z1S Z1T:Int)(WJ U7 VE V9:Value)(r:Int×Int×Int×Int×Bool×Int×Int×Int)(H:WW.f Vb Ud UO U5 Z0d UQ U0 U1 U2 U3 KV UH KQ Z1S Z1T=some r)(w:World)(hV:Hp)(sV:Sub hV (hp w))(h0:Xb kb hV WJ U5)(h1:Xb kb hV U7 Z0d)(h2:Xb Z8 hV VE KV)(h3:Xb ZP hV V9 UH)(b1:Nat)(hA:Hp)(sA:Sub hA (hp w))(dA:Dj hV hA)(hI:(Zl b1 [i6 Vb,i6 Ud,i6 UO,WJ,U7,i8 UQ,.bool U0,i6 U1,i6 U2,i6 U3,VE,V9] 140).p hV hA) :
    XL Tryz.prog 92 [pt b1,i6 KQ,i6 Z1S,i6 Z1T].toArray hA hV w (fun v=>HO.Yr (v=.tuple #[]) (HO.Yk [Zl b1 [i6 r.1,i6 r.2.1,i6 r.2.2.1,WJ,U7,i8 r.2.2.2.1,.bool r.2.2.2.2.1,i6 r.2.2.2.2.2.1,i6 r.2.2.2.2.2.2.1,i6 r.2.2.2.2.2.2.2,VE,V9] 140])):=by
 have see:YG w hA hV:=⟨sV,dA⟩
 refine XL.of (P:=Tryz.prog) (n:=⟨32,[]⟩) Tryz.func92 rfl ⟨rfl,rfl⟩ rfl (St.K6 (os:=[Zl b1 [i6 Vb,i6 Ud,i6 UO,WJ,U7,i8 UQ,.bool U0,i6 U1,i6 U2,i6 U3,VE,V9] 140]) sA (aS h0 (aS h1 (aS h2 (aS h3 (All.nil _))))) ⟨hA,em,Dj.WM _,Sub.refl _,Sub.em _,hI,trivial⟩) ?_;have ho:=H;refine gg ?_;refine st 0 ?_;refine st 0 ?_;obtain rfl:=sI ho;exact QE.over (rs:=[]) (vs:=[]) Tryz.results92 rfl trivial (fun w2 h=>St.done (fun a b p s=>⟨rfl,s⟩) (sQ [0] h))
def TT.f(Vb Ud UO:Int)(U5 Z0d:List Int)(UQ:Int)(U0:Bool)(U1 U2 U3:Int)(KV:List Z7)(UH:List Zi)(VQ:Int):Option (Int×Int×Int×Int×Bool×Int×Int×Int):=
  some (Vb,if VQ>Ud then VQ else Ud,UO,UQ,U0,U1,U2,U3)
theorem TT.ok(Vb Ud UO:Int)(U5 Z0d:List Int)(UQ:Int)(U0:Bool)(U1 U2 U3:Int)(KV:List Z7)(UH:List Zi)(VQ:Int)(WJ U7 VE V9:Value)(r:Int×Int×Int×Int×Bool×Int×Int×Int)(H:TT.f Vb Ud UO U5 Z0d UQ U0 U1 U2 U3 KV UH VQ=some r)(w:World)(hV:Hp)(sV:Sub hV (hp w))(h0:Xb kb hV WJ U5)(h1:Xb kb hV U7 Z0d)(h2:Xb Z8 hV VE KV)(h3:Xb ZP hV V9 UH)(b1:Nat)(hA:Hp)(sA:Sub hA (hp w))(dA:Dj hV hA)(hI:(Zl b1 [i6 Vb,i6 Ud,i6 UO,WJ,U7,i8 UQ,.bool U0,i6 U1,i6 U2,i6 U3,VE,V9] 140).p hV hA) :
    XL Tryz.prog 90 [pt b1,i6 VQ].toArray hA hV w (fun v=>HO.Yr (v=.tuple #[]) (HO.Yk [Zl b1 [i6 r.1,i6 r.2.1,i6 r.2.2.1,WJ,U7,i8 r.2.2.2.1,.bool r.2.2.2.2.1,i6 r.2.2.2.2.2.1,i6 r.2.2.2.2.2.2.1,i6 r.2.2.2.2.2.2.2,VE,V9] 140])):=by
 have see:YG w hA hV:=⟨sV,dA⟩
 refine XL.of (P:=Tryz.prog) (n:=⟨15,[]⟩) Tryz.func90 rfl ⟨rfl,rfl⟩ rfl (St.K6 (os:=[Zl b1 [i6 Vb,i6 Ud,i6 UO,WJ,U7,i8 UQ,.bool U0,i6 U1,i6 U2,i6 U3,VE,V9] 140]) sA (aS h0 (aS h1 (aS h2 (aS h3 (All.nil _))))) ⟨hA,em,Dj.WM _,Sub.refl _,Sub.em _,hI,trivial⟩) ?_;have ho:=H;refine gg ?_;refine SP.val (Val.max2 rfl rfl) rfl rfl rfl (gg ?_);refine st 0 ?_;obtain rfl:=sI ho;exact QE.over (rs:=[]) (vs:=[]) Tryz.results90 rfl trivial (fun w2 h=>St.done (fun a b p s=>⟨rfl,s⟩) (sQ [0] h))
def UY.f(Z9f Z9g Z9h:Int)(Z7x Z7y:List Int)(Z9i:Int)(Z6G:Bool)(Z6H Z6I Z6J:Int)(Z6K:List Z7)(Z5q:List Zi)(a1 Z7z:Int)(JH:Zb)(Z2b:ZM):Option (Int×Int×Int×Int×Bool×Int×Int×Int):=
  (WW.f Z9f Z9g Z9h Z7x Z7y Z9i Z6G Z6H Z6I Z6J Z6K Z5q Z7z Z2b.Fuel Z2b.Heap).bind fun t25=>(elt Z5q a1).bind fun x28=>if x28.Reached=true then((TT.f t25.1 t25.2.1 t25.2.2.1 Z7x Z7y t25.2.2.2.1 t25.2.2.2.2.1 t25.2.2.2.2.2.1 t25.2.2.2.2.2.2.1 t25.2.2.2.2.2.2.2 Z6K Z5q (IntKind.i64.wrap ((IntKind.i64.wrap ((IntKind.i64.wrap ((IntKind.i64.wrap ((Z7x.length:Int)+(Z7y.length:Int)))+(x28.Kinds.length:Int)))-(JH.Args.length:Int)))+Z2b.Stack))).bind fun t33=>some (t33.1,t33.2.1,t33.2.2.1,t33.2.2.2.1,t33.2.2.2.2.1,t33.2.2.2.2.2.1,t33.2.2.2.2.2.2.1,t33.2.2.2.2.2.2.2))else(some (t25.1,t25.2.1,t25.2.2.1,t25.2.2.2.1,t25.2.2.2.2.1,t25.2.2.2.2.2.1,t25.2.2.2.2.2.2.1,t25.2.2.2.2.2.2.2))
theorem UY.ok(Z9f Z9g Z9h:Int)(Z7x Z7y:List Int)(Z9i:Int)(Z6G:Bool)(Z6H Z6I Z6J:Int)(Z6K:List Z7)(Z5q:List Zi)(a1 Z7z:Int)(JH:Zb)(Z2b:ZM)(Z7A Z7B Z61 Z62 Z5r Z4v Z5s:Value)(r:Int×Int×Int×Int×Bool×Int×Int×Int)(H:UY.f Z9f Z9g Z9h Z7x Z7y Z9i Z6G Z6H Z6I Z6J Z6K Z5q a1 Z7z JH Z2b=some r)(w:World)(hV:Hp)(sV:Sub hV (hp w))(h0:Xb kb hV Z7A Z7x)(h1:Xb kb hV Z7B Z7y)(h2:Xb Z8 hV Z61 Z6K)(h3:Xb ZP hV Z62 Z5q)(h4:Xb kb hV Z5r JH.Args)(h5:Xb kb hV Z4v JH.Zk)(h6:Xb Z8 hV Z5s JH.Code)(b1:Nat)(hA:Hp)(sA:Sub hA (hp w))(dA:Dj hV hA)(hI:(Zl b1 [i6 Z9f,i6 Z9g,i6 Z9h,Z7A,Z7B,i8 Z9i,.bool Z6G,i6 Z6H,i6 Z6I,i6 Z6J,Z61,Z62] 140).p hV hA) :
    XL Tryz.prog 93 [pt b1,i6 a1,i6 Z7z,.agg #[Z5r,Z4v,i8 JH.Result,.bool JH.Reads,i6 JH.Fuel,i6 JH.Stack,i6 JH.Heap,Z5s],.agg #[i6 Z2b.Fuel,i6 Z2b.Stack,i6 Z2b.Heap]].toArray hA hV w (fun v=>HO.Yr (v=.tuple #[]) (HO.Yk [Zl b1 [i6 r.1,i6 r.2.1,i6 r.2.2.1,Z7A,Z7B,i8 r.2.2.2.1,.bool r.2.2.2.2.1,i6 r.2.2.2.2.2.1,i6 r.2.2.2.2.2.2.1,i6 r.2.2.2.2.2.2.2,Z61,Z62] 140])):=by
 have see:YG w hA hV:=⟨sV,dA⟩
 refine XL.of (P:=Tryz.prog) (n:=⟨57,[]⟩) Tryz.func93 rfl ⟨rfl,rfl⟩ rfl (St.K6 (os:=[Zl b1 [i6 Z9f,i6 Z9g,i6 Z9h,Z7A,Z7B,i8 Z9i,.bool Z6G,i6 Z6H,i6 Z6I,i6 Z6J,Z61,Z62] 140]) sA (aS h0 (aS h1 (aS h2 (aS h3 (aS h4 (aS h5 (aS h6 (All.nil _)))))))) ⟨hA,em,Dj.WM _,Sub.refl _,Sub.em _,hI,trivial⟩) ?_;have ho:=H;refine gg ?_;refine bx fun b21=>?_;refine bx fun b23=>?_;refine dr ?_;refine DA.ph 0 8 ?_;refine DT.tk 0 ?_;refine DT.tk 1 ?_;refine DT.tk 2 ?_;refine DT.tk 3 ?_;refine DT.tk 4 ?_;refine DT.tk 5 ?_;refine DT.tk 6 ?_;refine DT.tk 7 ?_;refine dn ?_;refine d1 (h:=id) 8 ?_;refine so [2,0,1] ?_;obtain⟨t25,hc,ho⟩:=bind_some ho;refine SP.Wy see (caps:=[]) _ Zma.h rfl rfl rfl rfl (fun w2 hP h1 sub s1 d1 ap hI=>WW.ok _ _ _ _ _ _ _ _ _ _ _ _ _ _ _ _ _ _ _ _ hc w2 hP sub (ap.get 0 rfl) (ap.get 1 rfl) (ap.get 2 rfl) (ap.get 3 rfl) _ h1 s1 d1 hI) (SP.k0 ?_);clear hc;refine gg ?_;refine dz ?_;refine ip 3 ho fun x28 ho p26=>?_;refine ZP.load see 0 rfl Tryz.underlying119 rfl Z3g.h rfl rfl rfl (fun v29=>?_);refine al (h:=fun _=>id) fun b31=>?_;refine sp 0 fun ZgQ=>?_;refine st 0 ?_;refine cb ho (fun ho=>?_) fun ho=>?_;rotate_left
 ·obtain rfl:=sI ho;exact QE.over (rs:=[]) (vs:=[]) Tryz.results93 rfl trivial (fun w2 h=>St.done (fun a b p s=>⟨rfl,s⟩) (sQ [1] h))
 refine dr ?_;refine DA.ph 0 27 ?_;refine DT.tk 0 ?_;refine DT.tk 1 ?_;refine DT.tk 2 ?_;refine DT.tk 3 ?_;refine DT.tk 4 ?_;refine DT.tk 5 ?_;refine DT.tk 6 ?_;refine DT.tk 7 ?_;refine DT.tk 8 ?_;refine DT.tk 9 ?_;refine DT.tk 10 ?_;refine DT.tk 11 ?_;refine DT.tk 12 ?_;refine DT.tk 13 ?_;refine DT.tk 14 ?_;refine DT.tk 15 ?_;refine DT.tk 16 ?_;refine DT.tk 17 ?_;refine DT.tk 18 ?_;refine DT.tk 19 ?_;refine DT.tk 20 ?_;refine DT.tk 21 ?_;refine DT.tk 22 ?_;refine DT.tk 23 ?_;refine DT.tk 24 ?_;refine DT.tk 25 ?_;refine DT.tk 26 ?_;refine dn ?_;refine d1 (h:=id) 27 ?_;refine so [1,0,2,3] ?_;obtain⟨t33,hc,ho⟩:=bind_some ho;refine SP.Wy see (caps:=[]) _ Zm9.h rfl rfl rfl rfl (fun w2 hP h1 sub s1 d1 ap hI=>TT.ok _ _ _ _ _ _ _ _ _ _ _ _ _ _ _ _ _ _ hc w2 hP sub (ap.get 2 rfl) (ap.get 3 rfl) (ap.get 4 rfl) (ap.get 5 rfl) _ h1 s1 d1 hI) (SP.k0 ?_);clear hc;refine gg ?_;refine dz ?_;obtain rfl:=sI ho;exact QE.over (rs:=[]) (vs:=[]) Tryz.results93 rfl trivial (fun w2 h=>St.done (fun a b p s=>⟨rfl,s⟩) (sQ [0] h))
inductive YQ.S where
  |start
  |l1 (Zh:Zb) (t23:(List Int)×Int) (KW J5 Z3G Z3H Z4w:Int) (Z4x:Bool) (Z2F KG Z2G:Int) (Z0e:List Zi)
def YQ.j1(Z0:Zc)(Xo:Int)(Wh:List ZM)(Zh:Zb)(t23:(List Int)×Int)(KW:Int)(Z0e:List Zi)(Z9X Z9Y Z9Z Z0f:Int)(Z8m:Bool)(Za0 Za1 Za2:Int):Option (YQ.S⊕ZM):=
  some (.inl (.l1 Zh t23 (IntKind.i64.wrap (KW+1)) Z9X Z9Y Z9Z Z0f Z8m Za0 Za1 Za2 Z0e))
def YQ.j2(Z0:Zc)(Xo:Int)(Wh:List ZM)(Zh:Zb)(t23:(List Int)×Int)(KW J5 Z3G Z3H Z4w:Int)(Z4x:Bool)(Z2F KG Z2G:Int)(Z0e:List Zi)(Z0g:Z7)(Z1J:Int):Option (YQ.S⊕ZM):=
  (elt t23.1 KW).bind fun Zn0=>(WW.f J5 Z3G Z3H Zh.Args Zh.Zk Z4w Z4x Z2F KG Z2G Zh.Code Z0e Zn0 1 Z1J).bind fun TL=>if Z0g.Op=30 then((elt t23.1 KW).bind fun x152=>(elt Z0.Methods Z0g.A).bind fun Z5b=>(elt Wh Z0g.A).bind fun Za3=>(UY.f TL.1 TL.2.1 TL.2.2.1 Zh.Args Zh.Zk TL.2.2.2.1 TL.2.2.2.2.1 TL.2.2.2.2.2.1 TL.2.2.2.2.2.2.1 TL.2.2.2.2.2.2.2 Zh.Code Z0e KW x152 Z5b Za3).bind fun t168=>YQ.j1 Z0 Xo Wh Zh t23 KW Z0e t168.1 t168.2.1 t168.2.2.1 t168.2.2.2.1 t168.2.2.2.2.1 t168.2.2.2.2.2.1 t168.2.2.2.2.2.2.1 t168.2.2.2.2.2.2.2)else(YQ.j1 Z0 Xo Wh Zh t23 KW Z0e TL.1 TL.2.1 TL.2.2.1 TL.2.2.2.1 TL.2.2.2.2.1 TL.2.2.2.2.2.1 TL.2.2.2.2.2.2.1 TL.2.2.2.2.2.2.2)
def YQ.F(Z0:Zc)(Xo:Int)(Wh:List ZM):YQ.S→Option (YQ.S⊕ZM)
  | .start=>(elt Z0.Methods Xo).bind fun Zh=>(YF.f Z0 Xo).bind fun t20=>(Wx.f Zh.Code).bind fun t23=>(VA.f t20.1).bind fun t28=>(TS.f 0 0 0 Zh.Args Zh.Zk Zh.Result Zh.Reads Zh.Fuel Zh.Stack Zh.Heap Zh.Code t20.1 (IntKind.i64.wrap ((IntKind.i64.wrap ((Zh.Args.length:Int)+(Zh.Zk.length:Int)))+t28))).bind fun t30=>some (.inl (.l1 Zh t23 0 t30.1 t30.2.1 t30.2.2.1 t30.2.2.2.1 t30.2.2.2.2.1 t30.2.2.2.2.2.1 t30.2.2.2.2.2.2.1 t30.2.2.2.2.2.2.2.1 t30.2.2.2.2.2.2.2.2))
  | .l1 Zh t23 KW J5 Z3G Z3H Z4w Z4x Z2F KG Z2G Z0e=>if KW<(Zh.Code.length:Int)then((elt Zh.Code KW).bind fun Z0g=>if Z0g.Op=22 then(YQ.j2 Z0 Xo Wh Zh t23 KW J5 Z3G Z3H Z4w Z4x Z2F KG Z2G Z0e Z0g Z0g.A)else(YQ.j2 Z0 Xo Wh Zh t23 KW J5 Z3G Z3H Z4w Z4x Z2F KG Z2G Z0e Z0g 0))else(some (.inr (⟨J5,Z3G,Z3H⟩:ZM)))
def YQ.f(Z0:Zc)(Xo:Int)(Wh:List ZM):Option ZM:=Zw (YQ.F Z0 Xo Wh) .start
theorem YQ.ok{Z0 Xo Wh Z6 Za Z5 VT}(r)(H:YQ.f Z0 Xo Wh=some r):Ok Tryz.prog 43 [.agg #[Z6,Za,Z5,i6 Z0.Zo],i6 Xo,VT] [Z9 Z4 Z6 Z0.ZA,Z9 Z4 Za Z0.Pool,Z9 Zd Z5 Z0.Methods,Z9 YN VT Wh,Xi ZY 0 XM] fun v=>HO.pure (v=.agg #[i6 r.Fuel,i6 r.Stack,i6 r.Heap]):=by
 refine oq 100 Tryz.func43 fun w hV see pb=>?_;obtain⟨m0,o,ho,hr⟩:=rn H;refine bx fun b5=>?_;refine al fun b7=>?_;refine ip 2 ho fun Zh ho p9=>?_;refine Zd.load see 0 rfl Tryz.underlying34 rfl Z3D.h rfl rfl rfl (fun v12 v14 v16=>?_);refine al (h:=fun _=>id) fun b18=>?_;refine sp (h:=id) 0 fun Z5p=>?_;refine sp (h:=id) 1 fun Z9d=>?_;refine sp 2 fun Z6D=>?_;refine st 0 ?_;refine k1 YF.ok ho fun t20 ho v21=>?_;refine k1 Wx.ok ho fun t23 ho v24=>?_;refine sh 1 fun ZxV=>?_;refine bd [i6 0,i6 0,i6 0,v12,v14,i8 Zh.Result,.bool Zh.Reads,i6 Zh.Fuel,i6 Zh.Stack,i6 Zh.Heap,v16,v21] ?_;refine bx fun KM=>?_;refine dr ?_;obtain⟨t28,hc29,ho⟩:=bind_some ho;refine DA.ph 0 13 ?_;refine DT.tk 0 ?_;refine DT.tk 1 ?_;refine DT.tk 2 ?_;refine DT.tk 3 ?_;refine DT.tk 4 ?_;refine DT.tk 5 ?_;refine DT.tk 6 ?_;refine DT.tk 7 ?_;refine DT.tk 8 ?_;refine DT.tk 9 ?_;refine DT.tk 10 ?_;refine DT.one 11 rfl (by kernel_rfl) rfl ?_;refine SP.Z0m see (caps:=[]) (i6 t28) Zu5.h rfl rfl rfl rfl (fun w2 hs=>VA.ok (Ux:=t20.1) _ hc29 w2 (hp w2) (Sub.refl _) (aS (Zg.read (St.own 2 rfl see.sub see.dj hs) (Sub.refl _) (Sub.refl _)) (All.nil _))) (gg ?_);refine QE.Vq (fun w2 hw=>hw) ?_;refine DT.tk 12 ?_;refine dn ?_;refine d1 (h:=id) 13 ?_;refine so (h:=id) [0,2,1,3,4,5] ?_;refine sg [Zl KM [i6 0,i6 0,i6 0,v12,v14,i8 Zh.Result,.bool Zh.Reads,i6 Zh.Fuel,i6 Zh.Stack,i6 Zh.Heap,v16,v21] 140,Zg ZP 119 v21 t20.1] ?_;obtain⟨t30,hc,ho⟩:=bind_some ho;refine SP.Wy see (caps:=[]) _ Zm9.h rfl rfl rfl rfl (fun w2 hP h1 sub s1 d1 ap hI=>TS.ok _ _ _ _ _ _ _ _ _ _ _ _ _ _ _ _ v21 _ hc w2 hP sub (ap.get 0 rfl) (ap.get 1 rfl) (ap.get 2 rfl) trivial _ h1 s1 d1 hI) (SP.k0 ?_);refine ex fun v32=>?_;refine ss ?_;clear hc;refine gg ?_;refine dz ?_;refine CP.Vk see 2 rfl ?_;obtain rfl:=sI ho;refine CP.loop (fun cl1 a w2=>∃KW:Int,∃J5:Int,∃Z3G:Int,∃Z3H:Int,∃Z4w:Int,∃Z4x:Bool,∃Z2F:Int,∃KG:Int,∃Z2G:Int,∃Z0e:List Zi,∃Z5Y:Value,cl1≤m0∧iter (YQ.F Z0 Xo Wh) cl1 (.l1 Zh t23 KW J5 Z3G Z3H Z4w Z4x Z2F KG Z2G Z0e)=some r∧Env ⟨100,[]⟩ [(2,VT),(3,pt b5),(6,pt b7),(10,v24),(12,pt KM),(52,v16),(53,i6 (Zh.Code.length:Int)),(54,i6 KW)] a∧St w em hV [Z9 ZP Z5Y Z0e,Z9 ki v24 t23.1,Z9 kb v12 Zh.Args,Z9 kb v14 Zh.Zk,Z9 Z8 v16 Zh.Code,Z9 Z4 Z6 Z0.ZA,Z9 Z4 Za Z0.Pool,Z9 Zd Z5 Z0.Methods,Z9 YN VT Wh,Xi ZY 0 XM] [Zl KM [i6 J5,i6 Z3G,i6 Z3H,v12,v14,i8 Z4w,.bool Z4x,i6 Z2F,i6 KG,i6 Z2G,v16,Z5Y] 140,Zl b7 [i6 0,i6 0,i6 0] 45,Zl b5 [Z6,Za,Z5,i6 Z0.Zo] 25] w2) m0 (fun a w2 ha hw=>⟨0,t30.1,t30.2.1,t30.2.2.1,t30.2.2.2.1,t30.2.2.2.2.1,t30.2.2.2.2.2.1,t30.2.2.2.2.2.2.1,t30.2.2.2.2.2.2.2.1,t30.2.2.2.2.2.2.2.2,v32,Nat.le_refl _,hr,ha.sub sb,(St.V5 [0,1,2,3,4,6,7,8,9,10] rfl (sQ [0,2,3] (St.Vk hw 1 rfl see)))⟩) ?_;clear hr;rintro cl1 a w2 ⟨KW,J5,Z3G,Z3H,Z4w,Z4x,Z2F,KG,Z2G,Z0e,Z5Y,Z9e,hi,ha,hw⟩;obtain⟨ZBR,o,ZwP,ho,hr⟩:=Jc hi;refine CP.app ha hw ?_;clear ha hw a w2 hi;refine gg ?_;refine ci (ht:=id) ho (fun ho=>?_) fun ho=>?_;rotate_left
 ·refine st 1 ?_;exact fin ho hr▸rt
 refine go ?_;refine ji hr (fun z=>∃Z9X Z9Y Z9Z Z0f Z8m Za0 Za1 Za2,z (YQ.j1 Z0 Xo Wh Zh t23 KW Z0e Z9X Z9Y Z9Z Z0f Z8m Za0 Za1 Za2) [(2,VT),(3,pt b5),(6,pt b7),(10,v24),(12,pt KM),(52,v16),(53,i6 (Zh.Code.length:Int)),(54,i6 KW)] [Zl KM [i6 Z9X,i6 Z9Y,i6 Z9Z,v12,v14,i8 Z0f,.bool Z8m,i6 Za0,i6 Za1,i6 Za2,v16,Z5Y] 140,Zl b7 [i6 0,i6 0,i6 0] 45,Zl b5 [Z6,Za,Z5,i6 Z0.Zo] 25]) ?_ ?_ (hb:=pe [Z9 ZP Z5Y Z0e,Z9 ki v24 t23.1,Z9 kb v12 Zh.Args,Z9 kb v14 Zh.Zk,Z9 Z8 v16 Zh.Code,Z9 Z4 Z6 Z0.ZA,Z9 Z4 Za Z0.Pool,Z9 Zd Z5 Z0.Methods,Z9 YN VT Wh,Xi ZY 0 XM])
 ·rintro _ _ ⟨Z9X,Z9Y,Z9Z,Z0f,Z8m,Za0,Za1,Za2,Zw0,o,_,ho,hr,h⟩;refine en h ?_;obtain rfl:=sI ho;exact QE.lower Zw0 (by omega) fun a w2 ha hw=>⟨(wr (KW+1)),Z9X,Z9Y,Z9Z,Z0f,Z8m,Za0,Za1,Za2,Z0e,Z5Y,(by omega),hr,ha.sub sb,hw⟩
 refine gg ?_;refine ip 4 ho fun Z0g ho ZiO=>?_;refine ld 0 ?_;refine al fun Zn1=>?_;refine st (h:=id) 0 ?_;refine go ?_;refine ji hr (fun z=>∃Z1J,z (YQ.j2 Z0 Xo Wh Zh t23 KW J5 Z3G Z3H Z4w Z4x Z2F KG Z2G Z0e Z0g Z1J) [(2,VT),(3,pt b5),(6,pt b7),(10,v24),(12,pt KM),(13,i6 KW),(14,pt Zn1),(15,i6 Z1J),(52,v16),(53,i6 (Zh.Code.length:Int)),(54,i6 KW)] [Zl Zn1 [i8 Z0g.Op,i6 Z0g.A,i6 Z0g.B] 43,Zl KM [i6 J5,i6 Z3G,i6 Z3H,v12,v14,i8 Z4w,.bool Z4x,i6 Z2F,i6 KG,i6 Z2G,v16,Z5Y] 140,Zl b7 [i6 0,i6 0,i6 0] 45,Zl b5 [Z6,Za,Z5,i6 Z0.Zo] 25]) ?_ ?_ (hb:=pe [Z9 ZP Z5Y Z0e,Z9 ki v24 t23.1,Z9 kb v12 Zh.Args,Z9 kb v14 Zh.Zk,Z9 Z8 v16 Zh.Code,Z9 Z4 Z6 Z0.ZA,Z9 Z4 Za Z0.Pool,Z9 Zd Z5 Z0.Methods,Z9 YN VT Wh,Xi ZY 0 XM]);rotate_left
 ·refine gg ?_;refine ci ho (fun ho=>?_) fun ho=>?_
  ·exact mi ho hr (fun _ z=>⟨Z0g.A,z⟩)
  exact mi ho hr (fun _ z=>⟨0,z⟩)
 rintro _ _ ⟨Z1J,ZBS,o,_,ho,hr,h⟩;refine en h ?_;refine dr ?_;refine ge 1 ho fun Zn0 ho ZBT Zn2=>?_;refine gu 0 ?_;refine DA.ph 0 8 ?_;refine DT.tk 0 ?_;refine DT.tk 1 ?_;refine DT.tk 2 ?_;refine DT.tk 3 ?_;refine DT.tk 4 ?_;refine DT.tv 5 rfl (Val.ie rfl rfl Zn2) ?_;refine tk 6 ?_;refine DT.tk 7 ?_;refine dn ?_;refine d1 (h:=id) 8 ?_;refine so [1,0,2,3] ?_;obtain⟨TL,hc,ho⟩:=bind_some ho;refine SP.Wy see (caps:=[]) _ Zma.h rfl rfl rfl rfl (fun w2 hP h1 sub s1 d1 ap hI=>WW.ok _ _ _ _ _ _ _ _ _ _ _ _ _ _ _ _ _ _ _ _ hc w2 hP sub (ap.get 4 rfl) (ap.get 5 rfl) (ap.get 6 rfl) (ap.get 2 rfl) _ h1 s1 d1 hI) (SP.k0 ?_);clear hc;refine gg ?_;refine dz ?_;refine ci ho (fun ho=>?_) fun ho=>?_;rotate_left
 ·exact mi ho hr (fun _ z=>⟨TL.1,TL.2.1,TL.2.2.1,TL.2.2.2.1,TL.2.2.2.2.1,TL.2.2.2.2.2.1,TL.2.2.2.2.2.2.1,TL.2.2.2.2.2.2.2,z⟩) (sO [0,2,3])
 refine dr ?_;refine ge 3 ho fun x152 ho ZBU Zn3=>?_;refine gu 0 ?_;refine ge 11 ho fun Z5b ho ZBV Zn4=>?_;refine DA.ghost (fun w2 h=>h.Z1W see 0 rfl (fun((v157,v159,Za4):Value×Value×Value)=>[v157,v159,i8 Z5b.Result,.bool Z5b.Reads,i6 Z5b.Fuel,i6 Z5b.Stack,i6 Z5b.Heap,Za4]) (fun((v157,v159,Za4):Value×Value×Value)=>[Z9 kb v157 Z5b.Args,Z9 kb v159 Z5b.Zk,Z9 Z8 Za4 Z5b.Code]) (fun h cs ⟨v157,v159,Za4,e,p0,p1,p2⟩=>⟨(v157,v159,Za4),e,All.cons p0 (All.cons p1 (All.cons p2 (All.nil _)))⟩)) (fun z_ _=>?_);obtain⟨v157,v159,Za4⟩:=z_;refine ge 17 ho fun Za3 ho Zw1 ZcF=>?_;refine gu 0 ?_;refine DA.ph 0 17 ?_;refine DT.tk 0 ?_;refine DT.tk 1 ?_;refine DT.tk 2 ?_;refine DT.tk 3 ?_;refine DT.tv 4 rfl (Val.ie rfl rfl Zn3) ?_;refine tk 5 ?_;refine DT.tk 6 ?_;refine DT.tk 7 ?_;refine DT.tk 8 ?_;refine DT.tk 9 ?_;refine DT.tv 10 rfl (Val.ie rfl rfl Zn4) ?_;refine tk 11 ?_;refine DT.tk 12 ?_;refine DT.tk 13 ?_;refine DT.tk 14 ?_;refine DT.tv 15 rfl (Val.ie rfl rfl ZcF) ?_;refine tk 16 ?_;refine dn ?_;refine d1 17 ?_;obtain⟨t168,hc,ho⟩:=bind_some ho;refine SP.Wy see (caps:=[]) _ Zu6.h rfl rfl rfl rfl (fun w2 hP h1 sub s1 d1 ap hI=>UY.ok _ _ _ _ _ _ _ _ _ _ _ _ _ _ _ _ _ _ _ _ _ _ _ _ hc w2 hP sub (ap.get 13 rfl) (ap.get 14 rfl) (ap.get 15 rfl) (ap.get 11 rfl) (ap.get 3 rfl) (ap.get 4 rfl) (ap.get 5 rfl) _ h1 s1 d1 hI) (SP.k0 ?_);clear hc;refine gg ?_;refine dz ?_;exact mi ho hr (fun _ z=>⟨t168.1,t168.2.1,t168.2.2.1,t168.2.2.2.1,t168.2.2.2.2.1,t168.2.2.2.2.2.1,t168.2.2.2.2.2.2.1,t168.2.2.2.2.2.2.2,z⟩) (sO [0,2,3])
def Tg.f(Xf Z1t Z0r:Int):Option Bool:=
  some (((decide (Xf≥0))&&(decide (Xf≤Z1t)))&&(decide (Xf≤Z0r)))
theorem Tg.ok{Xf Z1t Z0r}(r)(ho:Tg.f Xf Z1t Z0r=some r):Ok Tryz.prog 94 [i6 Xf,i6 Z1t,i6 Z0r] [] fun v=>HO.pure (v=.bool r):=by
 refine oq 19 Tryz.func94 fun w hV see pb=>?_;refine SP.jn 4 [0,2] 13 (.bool ((decide (Xf≥0))&&(decide (Xf≤Z1t)))) ?_ ?_
 ·refine gg ?_;refine SP.jn 4 [] 18 (.bool (((decide (Xf≥0))&&(decide (Xf≤Z1t)))&&(decide (Xf≤Z0r)))) ?_ ?_
  ·refine gg ?_;exact sI ho▸rt
  refine bb 14 (fun hq4=>?_) fun hq4=>?_
  ·exact jb (WH hq4 rfl)
  exact jb (WI hq4)
 refine bb 9 (fun hq2=>?_) fun hq2=>?_
 ·exact jb (WH hq2 rfl)
 exact jb (WI hq2)
def Z00.f(Tq:ZM)(x_1:Zb):Option Bool:=
  (Tg.f Tq.Fuel x_1.Fuel 1048576).bind fun t8=>(if t8=true then((Tg.f Tq.Stack x_1.Stack 256).bind fun t11=>some t11)else(some false)).bind fun t12=>(if t12=true then((Tg.f Tq.Heap x_1.Heap 1024).bind fun Kj=>some Kj)else(some false)).bind fun t16=>some t16
theorem Z00.ok{Tq x_1 UR U4 UU}(r)(ho:Z00.f Tq x_1=some r):Ok Tryz.prog 44 [.agg #[i6 Tq.Fuel,i6 Tq.Stack,i6 Tq.Heap],.agg #[UR,U4,i8 x_1.Result,.bool x_1.Reads,i6 x_1.Fuel,i6 x_1.Stack,i6 x_1.Heap,UU]] [Z9 kb UR x_1.Args,Z9 kb U4 x_1.Zk,Z9 Z8 UU x_1.Code] fun v=>HO.pure (v=.bool r):=by
 refine oq 24 Tryz.func44 fun w hV see pb=>?_;refine bx fun b4=>?_;refine bx fun b6=>?_;refine kv Tg.ok ho fun t8 ho=>?_;obtain⟨t12,ZgW,ho⟩:=bind_some ho;refine SP.jn 6 [2,3] 16 (.bool t12) ?_ ?_
 ·clear ZgW;refine gg ?_;obtain⟨t16,ZgX,ho⟩:=bind_some ho;refine SP.jn 6 [] 23 (.bool t16) ?_ ?_
  ·clear ZgX;refine gg ?_;exact sI ho▸rt
  refine bc 17 ZgX (fun ZcG ho=>?_) fun ZcG ho=>?_
  ·refine kv Tg.ok ho fun Kj ho=>?_;obtain rfl:=sI ho;exact jn
  obtain rfl:=sI ho;exact jn
 refine bc 10 ZgW (fun Z5P ho=>?_) fun Z5P ho=>?_
 ·refine kv Tg.ok ho fun t11 ho=>?_;obtain rfl:=sI ho;exact jn
 obtain rfl:=sI ho;exact jn
inductive YK.S where
  |start
  |l1 (t6:(List Int)×Int) (Tk:Int)
  |l2 (t6:(List Int)×Int) (l87:List ZM) (x89:Int)
def YK.F(Z0:Zc):YK.S→Option (YK.S⊕((List ZM)×Int))
  | .start=>(Yp.f Z0).bind fun t6=>if t6.2≠0 then(some (.inr ([],t6.2)))else(some (.inl (.l1 t6 0)))
  | .l1 t6 Tk=>if Tk<(Z0.Methods.length:Int)then((Uo.f Z0 Tk).bind fun t63=>if t63≠0 then(some (.inr ([],t63)))else(some (.inl (.l1 t6 (IntKind.i64.wrap (Tk+1))))))else(if(0:Int)≤(t6.1.length:Int)∧(24:Int)*(t6.1.length:Int)≤281474976710656∧((t6.1.length:Int):Int)≤9223372036854775807 then(some (.inl (.l2 t6 (List.replicate ((t6.1.length:Int):Int).toNat ZM.zero:List ZM) 0)))else none)
  | .l2 t6 l87 x89=>if x89<(t6.1.length:Int)then((elt t6.1 x89).bind fun x92=>(YQ.f Z0 x92 l87).bind fun t93=>(elt l87 x92).bind fun x95=>(elt (l87.set x92.toNat t93) x92).bind fun x97=>(elt Z0.Methods x92).bind fun x100=>(Z00.f x97 x100).bind fun Zn5=>if(!Zn5)=true then(some (.inr ([],120)))else(some (.inl (.l2 t6 (l87.set x92.toNat t93) (IntKind.i64.wrap (x89+1))))))else(some (.inr (l87,0)))
def YK.f(Z0:Zc):Option ((List ZM)×Int):=Zw (YK.F Z0) .start
theorem YK.ok{Z0 Z6 Za Z5}(r)(H:YK.f Z0=some r):Ok Tryz.prog 20 [.agg #[Z6,Za,Z5,i6 Z0.Zo]] [Z9 Z4 Z6 Z0.ZA,Z9 Z4 Za Z0.Pool,Z9 Zd Z5 Z0.Methods,Xi ZY 0 XM] fun v=>HO.ex fun u0:Value=>HO.Yr (v=.tuple #[u0,i6 r.2]) (HO.Yk [Zg YN 45 u0 r.1]):=by
 refine oq 61 Tryz.func20 fun w hV see pb=>?_;obtain⟨m0,o,ho,hr⟩:=rn H;refine bx fun b4=>?_;refine k1 Yp.ok ho fun t6 ho v7=>?_;refine ci ho (fun ho=>?_) fun ho=>?_
 ·exact fin ho hr▸rt (fun _ h=>sQ [0] (nO YN 45 h))
 refine lo ho hr (fun z=>∃Tk,z (.l1 t6 Tk) [(1,pt b4),(4,v7),(21,i6 (Z0.Methods.length:Int)),(22,i6 Tk)] [Zg ki 3 v7 t6.1,Zl b4 [Z6,Za,Z5,i6 Z0.Zo] 25]) (fun _ z=>⟨0,z⟩) ?_;rintro _ _ _ ⟨Tk,m62,o,_,_,ho,hr,h⟩;refine en h ?_;refine ci ho (fun ho=>?_) fun ho=>?_
 ·refine kv Uo.ok ho fun t63 ho=>?_;refine ci ho (fun ho=>?_) fun ho=>?_
  ·exact fin ho hr▸rt (fun _ h=>sQ [0] (nO YN 45 h))
  exact lw ho hr (fun _ z=>⟨(wr (Tk+1)),z⟩)
 obtain⟨hb,ho⟩:=Xn ho;refine SP.ZeT (k:=YN) (z:=ZM.zero) Tryz.underlying37 ZjP.h rfl rfl (fun _=>rfl) rfl rfl rfl rfl hb (fun v65=>?_);clear hb;refine gg ?_;refine lo ho hr (fun z=>∃l87 x89 v88,z (.l2 t6 l87 x89) [(1,pt b4),(8,v88),(35,v7),(36,i6 (t6.1.length:Int)),(37,i6 x89)] [Zg YN 45 v88 l87,Zg ki 3 v7 t6.1,Zl b4 [Z6,Za,Z5,i6 Z0.Zo] 25]) (fun _ z=>⟨(List.replicate ((t6.1.length:Int):Int).toNat ZM.zero:List ZM),0,v65,z⟩) ?_;rintro _ _ _ ⟨l87,x89,v88,m90,o,_,_,ho,hr,h⟩;refine en h ?_;refine ci ho (fun ho=>?_) fun ho=>?_;rotate_left
 ·exact fin ho hr▸rt (sO [0])
 obtain⟨x92,ZcH,ho⟩:=Yu ho;refine SP.Wo (fun w2 hw=>Zg.whole (St.own 1 rfl see.sub see.dj hw)) Tryz.underlying48 V4.h ZcH.1 ZcH.2 rfl rfl rfl rfl (fun p91 Z9j=>?_);refine SP.val (Val.Vu (off:=0) (k:=ki) (fun w2 hw=>Zg.whole (St.own 1 rfl see.sub see.dj hw)) ZcH.2 Z9j (fun _ _ e=>by subst e;rfl) Tryz.underlying3 rfl rfl) rfl rfl rfl (gg ?_);obtain⟨t93,hc,ho⟩:=bind_some ho;refine SP.Z0m see (caps:=[]) (.agg #[i6 t93.Fuel,i6 t93.Stack,i6 t93.Heap]) Zu7.h rfl rfl rfl rfl (fun w2 hs=>YQ.ok _ hc w2 (hp w2) (Sub.refl _) (aS ((St.Ur 0 rfl see.sub see.dj hs)) (aS ((St.Ur 1 rfl see.sub see.dj hs)) (aS ((St.Ur 2 rfl see.sub see.dj hs)) (aS (Zg.read (St.own 0 rfl see.sub see.dj hs) (Sub.refl _) (Sub.refl _)) (All.cons ((St.Ur 3 rfl see.sub see.dj hs)) (All.nil _))))))) ?_;clear hc;obtain⟨x95,ZcI,ho⟩:=Yu ho;refine SP.Wo (fun w2 hw=>Zg.whole (St.own 0 rfl see.sub see.dj hw)) Tryz.underlying37 Z5K.h ZcI.1 ZcI.2 rfl rfl rfl rfl (fun p94 Zfm=>?_);refine SP.Z2m (z0:=t93) (off:=0) (vs:=[i6 t93.Fuel,i6 t93.Stack,i6 t93.Heap]) see 0 rfl ZcI.2 Zfm rfl rfl Z5K.h rfl (fun a cs _ e=>by subst e;rfl) rfl rfl rfl (gg ?_);refine dr ?_;obtain⟨x97,Z4y,ho⟩:=Yu ho;refine DA.ghost (fun w2 hw=>let ⟨z,hz⟩:=ixC ((fun w2 hw=>Zg.whole (St.own 0 rfl see.sub see.dj hw)) w2 hw) Z4y.1 Z4y.2;⟨z,hz,hw⟩) (fun p96 Zkc=>?_);have Zfn:=Zkc.1;refine ge 2 ho fun x100 ho p98 Zfo=>?_;refine DA.ghost (fun w2 h=>h.Z1W see 0 rfl (fun((Za5,Z8n,v105):Value×Value×Value)=>[Za5,Z8n,i8 x100.Result,.bool x100.Reads,i6 x100.Fuel,i6 x100.Stack,i6 x100.Heap,v105]) (fun((Za5,Z8n,v105):Value×Value×Value)=>[Z9 kb Za5 x100.Args,Z9 kb Z8n x100.Zk,Z9 Z8 v105 x100.Code]) (fun h cs ⟨Za5,Z8n,v105,e,p0,p1,p2⟩=>⟨(Za5,Z8n,v105),e,All.cons p0 (All.cons p1 (All.cons p2 (All.nil _)))⟩)) (fun z_ _=>?_);obtain⟨Za5,Z8n,v105⟩:=z_;refine DA.ph 0 9 ?_;refine DT.tk 0 ?_;refine DT.tk 1 ?_;refine DT.tv 2 rfl (Val.Z7o Zkc Tryz.underlying37 Z5K.h rfl rfl) ?_;refine DT.tv 3 rfl (Val.ZbR see 0 rfl Z4y.2 Zfn (fun _ _ e=>e) Tryz.underlying45 rfl Z5K.h rfl) ?_;refine DT.tk 4 ?_;refine DT.tk 5 ?_;refine DT.tk 6 ?_;refine DT.tv 7 rfl (Val.ie rfl rfl Zfo) ?_;refine tk 8 ?_;refine dn ?_;refine d1 9 ?_;refine kv Z00.ok ho fun Zn5 ho=>?_;refine d1 10 ?_;refine dz ?_;refine cb ho (fun ho=>?_) fun ho=>?_
 ·exact fin ho hr▸rt (fun _ h=>sQ [0] (nO YN 45 h))
 exact lw ho hr (fun _ z=>⟨(l87.set x92.toNat t93),(wr (x89+1)),v88,z⟩)
def Z1u.f(Z0:Zc):Option Int:=
  (YK.f Z0).bind fun t6=>some t6.2
theorem Z1u.ok{Z0 Z6 Za Z5}(r)(ho:Z1u.f Z0=some r):Ok Tryz.prog 15 [.agg #[Z6,Za,Z5,i6 Z0.Zo]] [Z9 Z4 Z6 Z0.ZA,Z9 Z4 Za Z0.Pool,Z9 Zd Z5 Z0.Methods,Xi ZY 0 XM] fun v=>HO.pure (v=i6 r):=by
 refine oq 11 Tryz.func15 fun w hV see pb=>?_;refine bx fun b4=>?_;refine k1 YK.ok ho fun t6 ho v7=>?_;exact sI ho▸rt
inductive Uj.S where
  |start
  |l1 (Tf:List (List Int)) (x20:Int)
def Uj.F(Z0:Zc):Uj.S→Option (Uj.S⊕((List (List Int))×Int))
  | .start=>some (.inl (.l1 [] 0))
  | .l1 Tf x20=>if x20<(Z0.Methods.length:Int)then((VY.f Z0 x20).bind fun t22=>if t22.2≠0 then(some (.inr ([],t22.2)))else(if(Tf.length + [t22.1].length)*24≤140737488355328 then(some (.inl (.l1 (Tf ++ [t22.1]) (IntKind.i64.wrap (x20+1)))))else none))else(some (.inr (Tf,0)))
def Uj.f(Z0:Zc):Option ((List (List Int))×Int):=Zw (Uj.F Z0) .start
theorem Uj.ok{Z0 Z6 Za Z5}(r)(H:Uj.f Z0=some r):Ok Tryz.prog 37 [.agg #[Z6,Za,Z5,i6 Z0.Zo]] [Z9 Z4 Z6 Z0.ZA,Z9 Z4 Za Z0.Pool,Z9 Zd Z5 Z0.Methods] fun v=>HO.ex fun u0:Value=>HO.Yr (v=.tuple #[u0,i6 r.2]) (HO.Yk [Zg (TK ki) 48 u0 r.1]):=by
 refine oq 29 Tryz.func37 fun w hV see pb=>?_;obtain⟨m0,o,ho,hr⟩:=rn H;refine bx fun b4=>?_;refine lo ho hr (fun z=>∃Tf x20 v19,z (.l1 Tf x20) [(1,pt b4),(4,v19),(10,i6 (Z0.Methods.length:Int)),(11,i6 x20)] [Zg (TK ki) 48 v19 Tf,Zl b4 [Z6,Za,Z5,i6 Z0.Zo] 25]) (fun _ z=>⟨[],0,nl,z⟩) ?_ (fun _ hw=>(St.Tc (Zg.nil (TK ki) 48) hw));rintro _ _ _ ⟨Tf,x20,v19,m21,o,_,_,ho,hr,h⟩;refine en h ?_;refine ci ho (fun ho=>?_) fun ho=>?_;rotate_left
 ·exact fin ho hr▸rt (sO [0])
 obtain⟨t22,hc,ho⟩:=bind_some ho;refine SP.Ti see (caps:=[]) _ Zm8.h rfl rfl rfl rfl (fun w2 hP hs sub ap=>VY.ok _ _ _ _ _ _ hc w2 hP sub (ap.get 0 rfl) (ap.get 1 rfl) (ap.get 2 rfl)) (SP.k1 fun v23=>?_);clear hc;refine gg ?_;refine ci ho (fun ho=>?_) fun ho=>?_
 ·exact fin ho hr▸rt (fun _ h=>sQ [0] (St.Tc (Zg.nil (TK ki) 48) h))
 refine fz 0 ?_;refine SP.Z9N (k:=(TK ki)) (xs:=[t22.1]) (vs:=[v23]) Tryz.underlying71 ZjQ.h rfl rfl rfl rfl rfl rfl (fun _ ap=>⟨Xb.Z1O (ap.get 0 rfl),trivial⟩) (fun _ ap=>⟨[v23],_,rfl,⟨_,rfl,ap.get 0 rfl⟩,rfl⟩) rfl rfl rfl (fun v26=>?_);refine fz 0 ?_;refine ap 0 0 ho fun v28 ho=>?_;exact lw ho hr (fun _ z=>⟨(Tf ++ [t22.1]),(wr (x20+1)),v28,z⟩)
def Z0s.f(Vd:Z7):Option Bool:=
  some (decide (Vd.Op=5))
theorem Z0s.ok{Vd}(r)(ho:Z0s.f Vd=some r):Ok Tryz.prog 86 [.agg #[i8 Vd.Op,i6 Vd.A,i6 Vd.B]] [] fun v=>HO.pure (v=.bool r):=by
 refine oq 6 Tryz.func86 fun w hV see pb=>?_;refine bx fun b1=>?_;exact sI ho▸rt
inductive Ye.S where
  |start
  |l1 (x7:Int)
def Ye.F(s_0:List Z7):Ye.S→Option (Ye.S⊕Int)
  | .start=>some (.inl (.l1 0))
  | .l1 x7=>if x7<(s_0.length:Int)then((elt s_0 x7).bind fun Zh=>(Z0s.f Zh).bind fun t12=>if t12=true then(some (.inr x7))else(some (.inl (.l1 (IntKind.i64.wrap (x7+1))))))else(some (.inr (-1)))
def Ye.f(s_0:List Z7):Option Int:=Zw (Ye.F s_0) .start
theorem Ye.ok{s_0 X4}(r)(H:Ye.f s_0=some r):Ok Tryz.prog 128 [X4,.func (.func 86) #[] #[]] [Z9 Z8 X4 s_0] fun v=>HO.pure (v=i6 r):=by
 refine oq 19 Tryz.func128 fun w hV see pb=>?_;obtain⟨m0,o,ho,hr⟩:=rn H;refine lo ho hr (fun z=>∃x7,z (.l1 x7) [(0,X4),(1,.func (.func 86) #[] #[]),(7,i6 (s_0.length:Int)),(8,i6 x7)] []) (fun _ z=>⟨0,z⟩) ?_;rintro _ _ _ ⟨x7,m8,o,_,_,ho,hr,h⟩;refine en h ?_;refine ci ho (fun ho=>?_) fun ho=>?_
 ·refine ip 0 ho fun Zh ho p9=>?_;refine ld 0 ?_;refine kv Z0s.ok ho fun t12 ho=>?_;refine cb ho (fun ho=>?_) fun ho=>?_
  ·exact fin ho hr▸rt
  exact lw ho hr (fun _ z=>⟨(wr (x7+1)),z⟩)
 exact fin ho hr▸rt
def WC.f(s_0:List Z7):Option Bool:=
  (Ye.f s_0).bind fun t2=>some (decide (t2≥0))
theorem WC.ok{s_0 X4}(r)(ho:WC.f s_0=some r):Ok Tryz.prog 66 [X4,.func (.func 86) #[] #[]] [Z9 Z8 X4 s_0] fun v=>HO.pure (v=.bool r):=by
 refine oq 9 Tryz.func66 fun w hV see pb=>?_;refine kv Ye.ok ho fun t2 ho=>?_;exact sI ho▸rt
def Z0z.f(x_0:Zb):Option Bool:=
  (WC.f x_0.Code).bind fun t6=>some t6
theorem Z0z.ok{x_0 KH Tt KI}(r)(ho:Z0z.f x_0=some r):Ok Tryz.prog 39 [.agg #[KH,Tt,i8 x_0.Result,.bool x_0.Reads,i6 x_0.Fuel,i6 x_0.Stack,i6 x_0.Heap,KI]] [Z9 kb KH x_0.Args,Z9 kb Tt x_0.Zk,Z9 Z8 KI x_0.Code] fun v=>HO.pure (v=.bool r):=by
 refine oq 6 Tryz.func39 fun w hV see pb=>?_;refine bx fun b4=>?_;refine kv WC.ok ho fun t6 ho=>?_;exact sI ho▸rt
def Jj.f(Xf:Int)(Z0F Z0G:List Zp)(Z1H:List Zb)(Z25:Int):Option Bool:=
  (elt Z1H Xf).bind fun Vh=>some (!Vh.Reads)
theorem Jj.ok{Xf Z0F Z0G Z1H Z25 Z2z Z2A Z2B b8}(r)(ho:Jj.f Xf Z0F Z0G Z1H Z25=some r):Ok Tryz.prog 38 [i6 Xf,pt b8] [Z9 Z4 Z2z Z0F,Z9 Z4 Z2A Z0G,Z9 Zd Z2B Z1H,Ku b8 [Z2z,Z2A,Z2B,i6 Z25] 25] fun v=>HO.pure (v=.bool r):=by
 refine oq (h:=fun _ _ _=>id) 11 Tryz.func38 fun w hV see pb=>?_;refine CP.seq ?_;refine CP.region ?_;refine SP.val (Val.assign rfl) rfl rfl rfl ?_;refine SP.nil ?_;refine QE.then ?_
 refine CP.seq ?_;refine CP.region ?_;refine SP.val (Val.fieldAddr Tryz.underlying25 rfl Ziz.h rfl) rfl rfl rfl ?_;refine SP.val (Val.Z5h see 3 rfl Tryz.underlying23 rfl rfl rfl) rfl rfl rfl (gg ?_);refine ip 2 ho fun Vh ho p10=>?_;refine SP.WG see 0 rfl Tryz.underlying34 rfl sz4.h Zd.Z5I rfl rfl rfl (fun p13=>gg ?_);exact sI ho▸rt
inductive YV.S where
  |start
  |l1 (WS:Int)
def YV.F(s_0:List Int)(Vy Vz:List Zp)(Tn:List Zb)(Tp:Int):YV.S→Option (YV.S⊕Int)
  | .start=>some (.inl (.l1 0))
  | .l1 WS=>if WS<(s_0.length:Int)then((elt s_0 WS).bind fun x20=>(Jj.f x20 Vy Vz Tn Tp).bind fun t21=>if t21=true then(some (.inr WS))else(some (.inl (.l1 (IntKind.i64.wrap (WS+1))))))else(some (.inr (-1)))
def YV.f(s_0:List Int)(Vy Vz:List Zp)(Tn:List Zb)(Tp:Int):Option Int:=Zw (YV.F s_0 Vy Vz Tn Tp) .start
theorem YV.ok{s_0 Vy Vz Tn Tp X4 JD JE JF b9}(r)(H:YV.f s_0 Vy Vz Tn Tp=some r):Ok Tryz.prog 87 [X4,.func (.func 38) #[] #[pt b9]] [Z9 ki X4 s_0,Z9 Z4 JD Vy,Z9 Z4 JE Vz,Z9 Zd JF Tn,Ku b9 [JD,JE,JF,i6 Tp] 25] fun v=>HO.pure (v=i6 r):=by
 refine oq 19 Tryz.func87 fun w hV see pb=>?_;obtain⟨m0,o,ho,hr⟩:=rn H;refine lo ho hr (fun z=>∃WS,z (.l1 WS) [(0,X4),(1,.func (.func 38) #[] #[pt b9]),(7,i6 (s_0.length:Int)),(8,i6 WS)] []) (fun _ z=>⟨0,z⟩) ?_;rintro _ _ _ ⟨WS,m17,o,_,_,ho,hr,h⟩;refine en h ?_;refine ci ho (fun ho=>?_) fun ho=>?_
 ·refine ip 0 ho fun x20 ho p18=>?_;refine kv Jj.ok ho fun t21 ho=>?_;refine cb ho (fun ho=>?_) fun ho=>?_
  ·exact fin ho hr▸rt
  exact lw ho hr (fun _ z=>⟨(wr (WS+1)),z⟩)
 exact fin ho hr▸rt
def V7.f(s_0:List Int)(Vy Vz:List Zp)(Tn:List Zb)(Tp:Int):Option Bool:=
  (YV.f s_0 Vy Vz Tn Tp).bind fun t11=>some (decide (t11≥0))
theorem V7.ok{s_0 Vy Vz Tn Tp X4 JD JE JF b9}(r)(ho:V7.f s_0 Vy Vz Tn Tp=some r):Ok Tryz.prog 40 [X4,.func (.func 38) #[] #[pt b9]] [Z9 ki X4 s_0,Z9 Z4 JD Vy,Z9 Z4 JE Vz,Z9 Zd JF Tn,Ku b9 [JD,JE,JF,i6 Tp] 25] fun v=>HO.pure (v=.bool r):=by
 refine oq 9 Tryz.func40 fun w hV see pb=>?_;refine kv YV.ok ho fun t11 ho=>?_;exact sI ho▸rt
inductive VN.S where
  |start
  |l1 (t6:(List (List Int))×Int) (K3:Int)
def VN.F(Z0:Zc):VN.S→Option (VN.S⊕Int)
  | .start=>(Uj.f Z0).bind fun t6=>if t6.2≠0 then(some (.inr t6.2))else(some (.inl (.l1 t6 0)))
  | .l1 t6 K3=>if K3<(Z0.Methods.length:Int)then((elt Z0.Methods K3).bind fun x83=>(if x83.Reads=true then((Z0z.f x83).bind fun t94=>(if t94=true then(some true)else((elt t6.1 K3).bind fun x98=>(V7.f x98 Z0.ZA Z0.Pool Z0.Methods Z0.Zo).bind fun Z6x=>some Z6x)).bind fun Jz=>some Jz)else(some false)).bind fun Z6A=>if Z6A=true then(some (.inr 130))else(some (.inl (.l1 t6 (IntKind.i64.wrap (K3+1))))))else(some (.inr 0))
def VN.f(Z0:Zc):Option Int:=Zw (VN.F Z0) .start
theorem VN.ok{Z0 Z6 Za Z5}(r)(H:VN.f Z0=some r):Ok Tryz.prog 16 [.agg #[Z6,Za,Z5,i6 Z0.Zo]] [Z9 Z4 Z6 Z0.ZA,Z9 Z4 Za Z0.Pool,Z9 Zd Z5 Z0.Methods] fun v=>HO.pure (v=i6 r):=by
 refine oq 40 Tryz.func16 fun w hV see pb=>?_;obtain⟨m0,o,ho,hr⟩:=rn H;refine bx fun b4=>?_;refine k1 Uj.ok ho fun t6 ho v7=>?_;refine ci ho (fun ho=>?_) fun ho=>?_
 ·exact fin ho hr▸rt
 refine CP.Z2V see 1 rfl ?_;refine lo ho hr (fun z=>∃K3,z (.l1 t6 K3) [(1,pt b4),(3,v7),(17,Z5),(18,i6 (Z0.Methods.length:Int)),(19,i6 K3)] [Zg (TK ki) 48 v7 t6.1]) (fun _ z=>⟨0,z⟩) ?_ (hb:=pe [Ku b4 [Z6,Za,Z5,i6 Z0.Zo] 25,Z9 Z4 Z6 Z0.ZA,Z9 Z4 Za Z0.Pool,Z9 Zd Z5 Z0.Methods]);rintro _ _ _ ⟨K3,m80,o,_,_,ho,hr,h⟩;refine en h ?_;refine ci ho (fun ho=>?_) fun ho=>?_;rotate_left
 ·exact fin ho hr▸rt
 refine ip 3 ho fun x83 ho p81=>?_;refine Zd.load see 0 rfl Tryz.underlying34 rfl Z3D.h rfl rfl rfl (fun v84 v86 v88=>?_);refine al fun b90=>?_;refine sp (h:=id) 0 fun ZxY=>?_;refine sp (h:=id) 1 fun ZxZ=>?_;refine sp 2 fun ZmJ=>?_;refine st 0 ?_;obtain⟨Z6A,Zee,ho⟩:=bind_some ho;refine sj 11 [1,3,17,18,19] 38 ho ?_ ?_
 ·clear Zee;refine gg ?_;refine cb ho (fun ho=>?_) fun ho=>?_
  ·exact fin ho hr▸rt
  exact lw ho hr (fun _ z=>⟨(wr (K3+1)),z⟩) (sO [1])
 refine bc 27 Zee (fun Zw2 ho=>?_) fun Zw2 ho=>?_;rotate_left
 ·obtain rfl:=sI ho;exact jn
 refine kv Z0z.ok ho fun t94 ho=>?_;obtain⟨Jz,Z5t,ho⟩:=bind_some ho;refine SP.jn 7 [1,3,17,18,19,27,28,29,30] 37 (.bool Jz) ?_ ?_
 ·clear Z5t;refine gg ?_;obtain rfl:=sI ho;exact jn
 refine bc 30 Z5t (fun ZiP ho=>?_) fun ZiP ho=>?_
 ·obtain rfl:=sI ho;exact QE.jn (s:=⟨rfl,rfl,rfl,rfl,rfl,rfl,rfl,rfl,rfl,congrArg (fun z=>some (Value.bool z)) ZiP.symm,trivial⟩) fun w2 hw=>hw
 obtain⟨x98,ZcJ,ho⟩:=Yu ho;refine SP.Wo (fun w2 hw=>Zg.whole (St.own 1 rfl see.sub see.dj hw)) Tryz.underlying71 ZiA.h ZcJ.1 ZcJ.2 rfl rfl rfl rfl (fun p97 Zfp=>?_);refine SP.Z5m (j:=K3) see 1 0 rfl ZcJ.2 Zfp (fun _ _ ⟨v0_,e,p0_⟩=>⟨v0_,by subst e;rfl,p0_⟩) Tryz.underlying48 rfl rfl rfl (fun v99=>gg ?_);refine kv V7.ok ho fun Z6x ho=>?_;obtain rfl:=sI ho;exact QE.jn (s:=⟨rfl,rfl,rfl,rfl,rfl,rfl,rfl,rfl,rfl,congrArg (fun z=>some (Value.bool z)) ZiP.symm,trivial⟩) fun w2 hw=>(St.V5 [1,2,3,4,5,6,7,8] rfl hw)
def WX.j2(Z0:Zc)(x25 Jl:Int):Option (Int×Int):=
  some (x25,Jl)
def WX.f(Z0:Zc):Option (Int×Int):=
  (J7.f ).bind fun t6=>(Z1r.f Z0).bind fun t9=>if t9≠0 then(WX.j2 Z0 0 t9)else((JC.f Z0).bind fun t12=>if t12≠0 then(WX.j2 Z0 1 t12)else((Z16.f Z0).bind fun Kj=>if Kj≠0 then(WX.j2 Z0 2 Kj)else((Z0y.f Z0).bind fun Te=>if Te≠0 then(WX.j2 Z0 3 Te)else((Z1u.f Z0).bind fun t21=>if t21≠0 then(WX.j2 Z0 4 t21)else((VN.f Z0).bind fun t24=>if t24≠0 then(WX.j2 Z0 5 t24)else(WX.j2 Z0 (-1) t24))))))
theorem WX.ok{Z0 Z6 Za Z5}(r)(ho:WX.f Z0=some r):Ok Tryz.prog 41 [.agg #[Z6,Za,Z5,i6 Z0.Zo]] [Z9 Z4 Z6 Z0.ZA,Z9 Z4 Za Z0.Pool,Z9 Zd Z5 Z0.Methods,Xi ZY 0 XM] fun v=>HO.pure (v=.tuple #[i6 r.1,i6 r.2]):=by
 refine oq 23 Tryz.func41 fun w hV see pb=>?_;refine bx fun b4=>?_;refine CP.scope 0 (fun _ _=>False) rfl (fun _ _ _ h=>h) (fun _ _ h=>h.elim) (gg ?_);refine CP.label ?_;refine go ?_;refine oi r (fun z=>∃x25 Jl,z (WX.j2 Z0 x25 Jl) [(4,i6 x25),(5,i6 Jl)] []) ?_ ?_ (hb:=pe [Xi ZY 0 XM])
 ·rintro _ _ ⟨x25,Jl,ho,h⟩;refine en h ?_;refine QE.Z5k rfl ?_;exact sI ho▸rt
 refine gg ?_;obtain⟨t6,hc,ho⟩:=bind_some (x:=J7.f ) ho;refine SP.Z05 see (caps:=[]) (.agg #[.func (.func 10) #[] #[],.func (.func 142) #[] #[],.func (.func 143) #[] #[],.func (.func 14) #[] #[],.func (.func 15) #[] #[],.func (.func 16) #[] #[]]) ZtU.h rfl rfl rfl rfl (fun w2 hP hs sub ap=>J7.ok _ hc w2 hP sub (All.nil _)) ?_;clear hc;refine gg ?_;refine CP.rounds 8 ?_;refine LP.step (gg ?_);refine CP.W9 rfl rfl (gg ?_);refine SP.val (Val.Z1n (c:=[.func (.func 10) #[] #[]]) 0 Tryz.underlying133 Tryz.underlying132 rfl Z7s.h rfl rfl rfl rfl) rfl rfl rfl ?_;refine al fun b7=>?_;refine st 0 ?_;refine kv Z1r.ok ho fun t9 ho=>?_;refine ci ho (fun ho=>?_) fun ho=>?_
 ·exact mo ho (fun _ z=>⟨0,t9,z⟩) (sO [])
 refine QE.round ?_;refine LP.step (gg ?_);refine CP.W9 rfl rfl (gg ?_);refine SP.val (Val.Z1n (c:=[.func (.func 142) #[] #[]]) 1 Tryz.underlying133 Tryz.underlying132 rfl Z7s.h rfl rfl rfl rfl) rfl rfl rfl ?_;refine al fun b10=>?_;refine st 0 ?_;refine kv JC.ok ho fun t12 ho=>?_;refine ci ho (fun ho=>?_) fun ho=>?_
 ·exact mo ho (fun _ z=>⟨1,t12,z⟩) (sO [])
 refine QE.round ?_;refine LP.step (gg ?_);refine CP.W9 rfl rfl (gg ?_);refine SP.val (Val.Z1n (c:=[.func (.func 143) #[] #[]]) 2 Tryz.underlying133 Tryz.underlying132 rfl Z7s.h rfl rfl rfl rfl) rfl rfl rfl ?_;refine al fun b13=>?_;refine st 0 ?_;refine kv Z16.ok ho fun Kj ho=>?_;refine ci ho (fun ho=>?_) fun ho=>?_
 ·exact mo ho (fun _ z=>⟨2,Kj,z⟩) (sO [])
 refine QE.round ?_;refine LP.step (gg ?_);refine CP.W9 rfl rfl (gg ?_);refine SP.val (Val.Z1n (c:=[.func (.func 14) #[] #[]]) 3 Tryz.underlying133 Tryz.underlying132 rfl Z7s.h rfl rfl rfl rfl) rfl rfl rfl ?_;refine al fun b16=>?_;refine st 0 ?_;refine kv Z0y.ok ho fun Te ho=>?_;refine ci ho (fun ho=>?_) fun ho=>?_
 ·exact mo ho (fun _ z=>⟨3,Te,z⟩) (sO [])
 refine QE.round ?_;refine LP.step (gg ?_);refine CP.W9 rfl rfl (gg ?_);refine SP.val (Val.Z1n (c:=[.func (.func 15) #[] #[]]) 4 Tryz.underlying133 Tryz.underlying132 rfl Z7s.h rfl rfl rfl rfl) rfl rfl rfl ?_;refine al fun b19=>?_;refine st 0 ?_;refine kv Z1u.ok ho fun t21 ho=>?_;refine ci ho (fun ho=>?_) fun ho=>?_
 ·exact mo ho (fun _ z=>⟨4,t21,z⟩) (sO [])
 refine QE.round ?_;refine LP.step (gg ?_);refine CP.W9 rfl rfl (gg ?_);refine SP.val (Val.Z1n (c:=[.func (.func 16) #[] #[]]) 5 Tryz.underlying133 Tryz.underlying132 rfl Z7s.h rfl rfl rfl rfl) rfl rfl rfl ?_;refine al fun b22=>?_;refine st 0 ?_;refine kv VN.ok ho fun t24 ho=>?_;refine ci ho (fun ho=>?_) fun ho=>?_
 ·exact mo ho (fun _ z=>⟨5,t24,z⟩) (sO [])
 refine QE.round ?_;refine LP.step (gg ?_);refine CP.K4 rfl rfl (gg ?_);exact mo ho (fun _ z=>⟨(-1),t24,z⟩) (sO [])
def Z1v.f(Z0:Zc):Option Int:=
  (WX.f Z0).bind fun t6=>some t6.2
theorem Z1v.ok{Z0 Z6 Za Z5}(r)(ho:Z1v.f Z0=some r):Ok Tryz.prog 19 [.agg #[Z6,Za,Z5,i6 Z0.Zo]] [Z9 Z4 Z6 Z0.ZA,Z9 Z4 Za Z0.Pool,Z9 Zd Z5 Z0.Methods,Xi ZY 0 XM] fun v=>HO.pure (v=i6 r):=by
 refine oq 11 Tryz.func19 fun w hV see pb=>?_;refine bx fun b4=>?_;refine kv WX.ok ho fun t6 ho=>?_;exact sI ho▸rt
def J9.f(Z0:Zc):Option ((List ZM)×Int):=
  (Z1v.f Z0).bind fun t6=>if t6≠0 then(some ([],t6))else((YK.f Z0).bind fun t8=>some (t8.1,t8.2))
theorem J9.ok{Z0 Z6 Za Z5}(r)(ho:J9.f Z0=some r):Ok Tryz.prog 17 [.agg #[Z6,Za,Z5,i6 Z0.Zo]] [Z9 Z4 Z6 Z0.ZA,Z9 Z4 Za Z0.Pool,Z9 Zd Z5 Z0.Methods,Xi ZY 0 XM] fun v=>HO.ex fun u0:Value=>HO.Yr (v=.tuple #[u0,i6 r.2]) (HO.Yk [Zg YN 45 u0 r.1]):=by
 refine oq 14 Tryz.func17 fun w hV see pb=>?_;refine bx fun b4=>?_;refine kv Z1v.ok ho fun t6 ho=>?_;refine ci ho (fun ho=>?_) fun ho=>?_
 ·exact sI ho▸rt (fun _ h=>sQ [0] (nO YN 45 h))
 refine k1 YK.ok ho fun t8 ho v9=>?_;exact sI ho▸rt (sO [0])
def Z0A.f(Zx:List Int):Option (Zc×(List ZM)×Int):=
  (ZQ.f Zx).bind fun t4=>if t4.2≠0 then(some ((⟨[],[],[],0⟩:Zc),[],t4.2))else((J9.f t4.1).bind fun t17=>if t17.2≠0 then(some ((⟨[],[],[],0⟩:Zc),[],t17.2))else(some (t4.1,t17.1,0)))
theorem Z0A.ok{Zx Yf}(r)(ho:Z0A.f Zx=some r):Ok Tryz.prog 27 [Yf] [Z9 kb Yf Zx,Xi ZY 0 XM,Xi ki 1 Z3E] fun v=>HO.ex fun u0:Value=>HO.ex fun u1:Value=>HO.ex fun u2:Value=>HO.ex fun u3:Value=>HO.Yr (v=.tuple #[.agg #[u0,u1,u2,i6 r.1.Zo],u3,i6 r.2.2]) (HO.Yk [Zg Z4 100 u0 r.1.ZA,Zg Z4 100 u1 r.1.Pool,Vf YI 34 u2 r.1.Methods,Zg YN 45 u3 r.2.1]):=by
 refine oq 28 Tryz.func27 fun w hV see pb=>?_;refine al fun b2=>?_;refine k3 ZQ.ok ho fun t4 ho v5 v6 v7=>?_;refine al (h:=fun _=>id) fun b11=>?_;refine sh (h:=id) 1 fun Z8W=>?_;refine sh (h:=id) 2 fun Z8X=>?_;refine SP.have (fun w2 hw=>Vf.shape (St.own 3 rfl see.sub see.dj hw)) (fun Z8Y=>?_);refine st 0 ?_;refine ci ho (fun ho=>?_) fun ho=>?_
 ·refine bd [nl,nl,nl,i6 0] ?_;refine st 4 ?_;exact sI ho▸rt (fun _ h=>sQ [3,2,1,0] (nO YN 45 (St.Tc (Vf.nil YI 34) (nO Z4 100 (nO Z4 100 h))))) (rs:=[.cell 2 25,.tmp 3,.tmp 4]) (vs:=[.agg #[nl,nl,nl,i6 0],nl,i6 t4.2]) (hv:=⟨Xp.Z3T 4 rfl rfl Tryz.underlying25 rfl Z8d.h,Xp.tmp rfl,Xp.tmp rfl,trivial⟩) (hk:=fun a b p s=>⟨_,_,_,_,rfl,s⟩)
 obtain⟨t17,hc,ho⟩:=bind_some ho;refine SP.Z1M see (caps:=[]) _ Zu8.h rfl rfl rfl rfl (fun w2 hs=>J9.ok _ hc w2 (hp w2) (Sub.refl _) (aS (Zg.read (St.own 1 rfl see.sub see.dj hs) (Sub.refl _) (Sub.refl _)) (aS (Zg.read (St.own 2 rfl see.sub see.dj hs) (Sub.refl _) (Sub.refl _)) (aS (Vf.read (St.own 3 rfl see.sub see.dj hs) (Sub.refl _) (Sub.refl _)) (All.cons ((St.Ur 1 rfl see.sub see.dj hs)) (All.nil _)))))) (fun v a a2 b ⟨v18,e,h⟩=>⟨v18,e,(Sep.Z3U (fun _=>Zg.flip (fun _ _ _ _ h=>h)) (fun _=>Sep.Z5E)) h⟩) (SP.k1 fun v18=>?_);clear hc;refine gg ?_;refine ci ho (fun ho=>?_) fun ho=>?_
 ·refine bd [nl,nl,nl,i6 0] ?_;refine st 5 ?_;exact sI ho▸rt (fun _ h=>sQ [3,2,1,0] (nO YN 45 (St.Tc (Vf.nil YI 34) (nO Z4 100 (nO Z4 100 h))))) (rs:=[.cell 2 25,.tmp 3,.tmp 4]) (vs:=[.agg #[nl,nl,nl,i6 0],nl,i6 t17.2]) (hv:=⟨Xp.Z3T 5 rfl rfl Tryz.underlying25 rfl Z8d.h,Xp.tmp rfl,Xp.tmp rfl,trivial⟩) (hk:=fun a b p s=>⟨_,_,_,_,rfl,s⟩)
 refine sh (h:=id) 2 fun Z8W=>?_;refine sh (h:=id) 3 fun Z8X=>?_;refine SP.have (fun w2 hw=>Vf.shape (St.own 4 rfl see.sub see.dj hw)) (fun Z8Y=>?_);refine st 5 ?_;exact sI ho▸rt (sO [2,3,4,0]) (rs:=[.cell 2 25,.tmp 3,.tmp 4]) (vs:=[.agg #[v5,v6,v7,i6 t4.1.Zo],v18,i6 0]) (hv:=⟨Xp.Z3T 5 rfl rfl Tryz.underlying25 rfl Z8d.h,Xp.tmp rfl,Xp.tmp rfl,trivial⟩) (hk:=fun a b p s=>⟨_,_,_,_,rfl,s⟩)
inductive ZN.S where
  |start
  |l1 (x18 x19:Int)
def ZN.F(Zx:List Int)(a1 WU:Int):ZN.S→Option (ZN.S⊕(Int×Int×Int))
  | .start=>if((((decide (WU<1))||(decide (WU>8)))||(decide (a1<0)))||(decide (a1>(Zx.length:Int))))=true then(some (.inr (0,0,2)))else(if(IntKind.i64.wrap ((Zx.length:Int)-a1))<WU then(some (.inr (0,0,10)))else((if WU=8 then((elt Zx (IntKind.i64.wrap (a1+7))).bind fun Vh=>some (decide (Vh>127)))else(some false)).bind fun Kh=>if Kh=true then(some (.inr (0,0,11)))else(some (.inl (.l1 0 (IntKind.i64.wrap (WU-1)))))))
  | .l1 x18 x19=>if x19≥0 then((elt Zx (IntKind.i64.wrap (a1+x19))).bind fun x23=>some (.inl (.l1 (IntKind.i64.wrap ((IntKind.i64.wrap (256*x18))+(IntKind.i64.wrap x23))) (IntKind.i64.wrap (x19-1)))))else(some (.inr (x18,IntKind.i64.wrap (a1+WU),0)))
def ZN.f(Zx:List Int)(a1 WU:Int):Option (Int×Int×Int):=Zw (ZN.F Zx a1 WU) .start
theorem ZN.ok{Zx a1 WU Yf}(r)(H:ZN.f Zx a1 WU=some r):Ok Tryz.prog 121 [Yf,i6 a1,i6 WU] [Z9 kb Yf Zx] fun v=>HO.pure (v=.tuple #[i6 r.1,i6 r.2.1,i6 r.2.2]):=by
 refine oq 63 Tryz.func121 fun w hV see pb=>?_;obtain⟨m0,o,ho,hr⟩:=rn H;refine SP.jn 3 [0,1,2] 16 (.bool ((decide (WU<1))||(decide (WU>8)))) ?_ ?_;rotate_left
 ·refine bb 13 (fun hq3=>?_) fun hq3=>?_
  ·exact jb (Vi hq3)
  exact jb (Vj hq3 rfl)
 refine gg ?_;refine SP.jn 3 [0,1,2] 20 (.bool (((decide (WU<1))||(decide (WU>8)))||(decide (a1<0)))) ?_ ?_;rotate_left
 ·refine bb 17 (fun UF=>?_) fun UF=>?_
  ·exact jb (Vi UF)
  exact jb (Vj UF rfl)
 refine gg ?_;refine sj 5 [0,1,2] 26 ho ?_ ?_;rotate_left
 ·refine bb 21 (fun VP=>?_) fun VP=>?_
  ·exact jb (Vi VP)
  exact jb (Vj VP rfl)
 refine gg ?_;refine cb ho (fun ho=>?_) fun ho=>?_
 ·exact fin ho hr▸rt
 refine ci ho (fun ho=>?_) fun ho=>?_
 ·exact fin ho hr▸rt
 obtain⟨Kh,ZgY,ho⟩:=bind_some ho;refine sj 7 [0,1,2] 42 ho ?_ ?_
 ·clear ZgY;refine gg ?_;refine cb ho (fun ho=>?_) fun ho=>?_
  ·exact fin ho hr▸rt
  refine lo ho hr (fun z=>∃x18 x19,z (.l1 x18 x19) [(0,Yf),(1,i6 a1),(2,i6 WU),(9,i6 x18),(10,i6 x19)] []) (fun _ z=>⟨0,(wr (WU-1)),z⟩) ?_;rintro _ _ _ ⟨x18,x19,m20,o,_,_,ho,hr,h⟩;refine en h ?_;refine ci ho (fun ho=>?_) fun ho=>?_
  ·refine ip 0 ho fun x23 ho p21=>?_;exact lw ho hr (fun _ z=>⟨(wr ((wr (256*x18))+(wr x23))),(wr (x19-1)),z⟩)
  exact fin ho hr▸rt
 refine bi 35 ZgY (fun hq9 ho=>?_) fun hq9 ho=>?_
 ·refine ip 0 ho fun Vh ho p10=>?_;obtain rfl:=sI ho;exact QE.jn fun w2 hw=>(St.V5 [1] rfl hw)
 obtain rfl:=sI ho;exact jn
end Go.Proofs.YtehjiiebjkkcmaaGreatDoor
end
