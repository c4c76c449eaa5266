/- Functions of the program as plain functions, with the proof that the code computes them: printed by gen.py of this session. -/
import Derived.Test.YtehjiiebjkkcmaaGreatDoorProg
import Derived.Test.YtehjiiebjkkcmaaGreatDoorW2xVerifyLoads
import Derived.Ground.GgzProg
import Derived.Ground.Names8Prog
import Derived.Ground.NamesProg
import Derived.Ground.SlgcProg
import Derived.Ground.SlgmProg
import Derived.Ground.SlgnProg
import Derived.Ground.SlsfProg
import Derived.Shelf.Bits.Mul64
import Derived.Shelf.Lay
import Derived.Shelf.SlGeneric
import Derived.Shelf.SlIterI.Nil
import Derived.Shelf.SlSortCmp.WholeK
import Derived.Shelf.SlicesE.Reverse
import Derived.Shelf.SlicesG.Cmp
import Derived.Shelf.SlicesG.CompactI
import Derived.Shelf.Small.Bits
import Derived.Shelf.SortM.Plain
import Derived.Shelf.SortM.SortNone
import Derived.Shelf.Spec.SlicesGrow
import Derived.Test.YtehjiiebjkkcmaaGreatDoorGVerifyLoadsp3
set_option linter.unusedVariables false
set_option linter.unusedSimpArgs false
set_option maxRecDepth 20000
set_option maxHeartbeats 2000000
set_option linter.defProp false
set_option warn.classDefReducibility false
noncomputable section
namespace Go.Proofs.YtehjiiebjkkcmaaGreatDoor
open Go.Q
attribute [local irreducible] CP SP QE DA DT Val St
inductive Yv.S where
  |start
  |l1 (t6:(List Int)×Int) (x63:Int)
  |l2 (t6:(List Int)×Int) (l91:List ZM) (x93:Int)
def Yv.F(Z0:Zc):Yv.S→Option (Yv.S⊕((List ZM)×Int))
  | .start=>(ZH.f Z0).bind fun t6=>if t6.2≠0 then(some (.inr ([],t6.2)))else(some (.inl (.l1 t6 0)))
  | .l1 t6 x63=>if x63<(Z0.Methods.length:Int)then((ZB.f Z0 x63).bind fun t65=>if t65.2≠0 then(some (.inr ([],t65.2)))else(some (.inl (.l1 t6 (IntKind.i64.wrap (x63+1))))))else(if(0:Int)≤(t6.1.length:Int)∧(24:Int)*(t6.1.length:Int)≤281474976710656∧((t6.1.length:Int):Int)≤9223372036854775807 then(some (.inl (.l2 t6 (List.replicate ((t6.1.length:Int):Int).toNat ZM.zero:List ZM) 0)))else none)
  | .l2 t6 l91 x93=>if x93<(t6.1.length:Int)then((elt t6.1 x93).bind fun x96=>(Yj.f Z0 x96 l91).bind fun t97=>(elt l91 x96).bind fun x99=>(elt (l91.set x96.toNat t97) x96).bind fun x101=>(elt Z0.Methods x96).bind fun x104=>(TI.f x101 x104).bind fun Z19=>if(!Z19)=true then(some (.inr ([],120)))else(some (.inl (.l2 t6 (l91.set x96.toNat t97) (IntKind.i64.wrap (x93+1))))))else(some (.inr (l91,0)))
def Yv.f(Z0:Zc):Option ((List ZM)×Int):=Zw (Yv.F Z0) .start
theorem Yv.ok{Z0 Z6 Za Z5}(r)(H:Yv.f Z0=some r):Ok Tryz.prog 54 [.agg #[Z6,Za,Z5,i6 Z0.Zo]] [Z9 Z4 Z6 Z0.ZA,Z9 Z4 Za Z0.Pool,Z9 Zd Z5 Z0.Methods] fun v=>HO.ex fun u0:Value=>HO.Yr (v=.tuple #[u0,i6 r.2]) (HO.Yk [Zg YN 45 u0 r.1]):=by
 refine oq 68 Tryz.func54 fun w hV see pb=>?_;obtain⟨m0,o,ho,hr⟩:=rn H;refine bx fun b4=>?_;refine k1 ZH.ok ho fun t6 ho v7=>?_;refine ci ho (fun ho=>?_) fun ho=>?_
 ·exact fin ho hr▸rt (fun _ h=>sQ [0] (nO YN 45 h))
 refine lo ho hr (fun z=>∃x63,z (.l1 t6 x63) [(1,pt b4),(4,v7),(6,i6 x63)] [Zg ki 3 v7 t6.1,Zl b4 [Z6,Za,Z5,i6 Z0.Zo] 25]) (fun _ z=>⟨0,z⟩) ?_;rintro _ _ _ ⟨x63,m64,o,_,_,ho,hr,h⟩;refine en h ?_;refine ci ho (fun ho=>?_) fun ho=>?_
 ·refine k1 ZB.ok ho fun t65 ho v66=>?_;refine ci ho (fun ho=>?_) fun ho=>?_
  ·exact fin ho hr▸rt (fun _ h=>sQ [0] (nO YN 45 h))
  exact lw ho hr (fun _ z=>⟨(wr (x63+1)),z⟩) (sO [1,2])
 obtain⟨hb,ho⟩:=Xn ho;refine SP.ZeT (k:=YN) (z:=ZM.zero) Tryz.underlying37 ZjP.h rfl rfl (fun _=>rfl) rfl rfl rfl rfl hb (fun v69=>?_);clear hb;refine gg ?_;refine lo ho hr (fun z=>∃l91 x93 v92,z (.l2 t6 l91 x93) [(1,pt b4),(4,v7),(9,v92),(10,i6 x93)] [Zg YN 45 v92 l91,Zg ki 3 v7 t6.1,Zl b4 [Z6,Za,Z5,i6 Z0.Zo] 25]) (fun _ z=>⟨(List.replicate ((t6.1.length:Int):Int).toNat ZM.zero:List ZM),0,v69,z⟩) ?_;rintro _ _ _ ⟨l91,x93,v92,m94,o,_,_,ho,hr,h⟩;refine en h ?_;refine ci ho (fun ho=>?_) fun ho=>?_;rotate_left
 ·exact fin ho hr▸rt (sO [0])
 obtain⟨x96,Zd9,ho⟩:=Yu ho;refine SP.Wo (fun w2 hw=>Zg.whole (St.own 1 rfl see.sub see.dj hw)) Tryz.underlying48 V4.h Zd9.1 Zd9.2 rfl rfl rfl rfl (fun p95 Zfy=>?_);refine SP.val (Val.Vu (off:=0) (k:=ki) (fun w2 hw=>Zg.whole (St.own 1 rfl see.sub see.dj hw)) Zd9.2 Zfy (fun _ _ e=>by subst e;rfl) Tryz.underlying3 rfl rfl) rfl rfl rfl (gg ?_);obtain⟨t97,hc,ho⟩:=bind_some ho;refine SP.Z0m see (caps:=[]) (.agg #[i6 t97.Fuel,i6 t97.Stack,i6 t97.Heap]) Zps.h rfl rfl rfl rfl (fun w2 hs=>Yj.ok _ hc w2 (hp w2) (Sub.refl _) (aS ((St.Ur 0 rfl see.sub see.dj hs)) (aS ((St.Ur 1 rfl see.sub see.dj hs)) (aS ((St.Ur 2 rfl see.sub see.dj hs)) (aS (Zg.read (St.own 0 rfl see.sub see.dj hs) (Sub.refl _) (Sub.refl _)) (All.nil _)))))) ?_;clear hc;obtain⟨x99,Zda,ho⟩:=Yu ho;refine SP.Wo (fun w2 hw=>Zg.whole (St.own 0 rfl see.sub see.dj hw)) Tryz.underlying37 Z5K.h Zda.1 Zda.2 rfl rfl rfl rfl (fun p98 Zfo=>?_);refine SP.Z2m (z0:=t97) (off:=0) (vs:=[i6 t97.Fuel,i6 t97.Stack,i6 t97.Heap]) see 0 rfl Zda.2 Zfo rfl rfl Z5K.h rfl (fun a cs _ e=>by subst e;rfl) rfl rfl rfl (gg ?_);refine dr ?_;obtain⟨x101,Z35,ho⟩:=Yu ho;refine DA.ghost (fun w2 hw=>let ⟨z,hz⟩:=ixC ((fun w2 hw=>Zg.whole (St.own 0 rfl see.sub see.dj hw)) w2 hw) Z35.1 Z35.2;⟨z,hz,hw⟩) (fun Zn8 Zhb=>?_);have Z6O:=Zhb.1;refine ge 2 ho fun x104 ho ZDq Zon=>?_;refine DA.ghost (fun w2 h=>h.Z1W see 0 rfl (fun((v105,v107,v109):Value×Value×Value)=>[v105,v107,i8 x104.Result,.bool x104.Reads,i6 x104.Fuel,i6 x104.Stack,i6 x104.Heap,v109]) (fun((v105,v107,v109):Value×Value×Value)=>[Z9 kb v105 x104.Args,Z9 kb v107 x104.Zk,Z9 Z8 v109 x104.Code]) (fun h cs ⟨v105,v107,v109,e,p0,p1,p2⟩=>⟨(v105,v107,v109),e,All.cons p0 (All.cons p1 (All.cons p2 (All.nil _)))⟩)) (fun z_ _=>?_);obtain⟨v105,v107,v109⟩:=z_;refine DA.ph 0 9 ?_;refine DT.tk 0 ?_;refine DT.tk 1 ?_;refine DT.tv 2 rfl (Val.Z7o Zhb Tryz.underlying37 Z5K.h rfl rfl) ?_;refine DT.tv 3 rfl (Val.ZbR see 0 rfl Z35.2 Z6O (fun _ _ e=>e) Tryz.underlying45 rfl Z5K.h rfl) ?_;refine DT.tk 4 ?_;refine DT.tk 5 ?_;refine DT.tk 6 ?_;refine DT.tv 7 rfl (Val.ie rfl rfl Zon) ?_;refine tk 8 ?_;refine dn ?_;refine d1 9 ?_;refine kv TI.ok ho fun Z19 ho=>?_;refine d1 10 ?_;refine dz ?_;refine cb ho (fun ho=>?_) fun ho=>?_
 ·exact fin ho hr▸rt (fun _ h=>sQ [0] (nO YN 45 h))
 exact lw ho hr (fun _ z=>⟨(l91.set x96.toNat t97),(wr (x93+1)),v92,z⟩)
inductive Xr.S where
  |start
  |l1 (x28:Int)
def Xr.F(Z0:Zc)(Xo:Int):Xr.S→Option (Xr.S⊕(Bool×Int))
  | .start=>if((decide (Xo<0))||(decide (Xo≥(Z0.Methods.length:Int))))=true then(some (.inr (false,2)))else(some (.inl (.l1 0)))
  | .l1 x28=>(elt Z0.Methods Xo).bind fun x32=>if x28<(x32.Code.length:Int)then((elt Z0.Methods Xo).bind fun x39=>(elt x39.Code x28).bind fun x46=>if x46.Op=5 then(some (.inr (true,0)))else(some (.inl (.l1 (IntKind.i64.wrap (x28+1))))))else(some (.inr (false,0)))
def Xr.f(Z0:Zc)(Xo:Int):Option (Bool×Int):=Zw (Xr.F Z0 Xo) .start
theorem Xr.ok{Z0 Xo Z6 Za Z5}(r)(H:Xr.f Z0 Xo=some r):Ok Tryz.prog 109 [.agg #[Z6,Za,Z5,i6 Z0.Zo],i6 Xo] [Z9 Z4 Z6 Z0.ZA,Z9 Z4 Za Z0.Pool,Z9 Zd Z5 Z0.Methods] fun v=>HO.pure (v=.tuple #[.bool r.1,i6 r.2]):=by
 refine oq 38 Tryz.func109 fun w hV see pb=>?_;obtain⟨m0,o,ho,hr⟩:=rn H;refine bx fun b4=>?_;refine sj 6 [1,2] 15 ho ?_ ?_;rotate_left
 ·refine bb 9 (fun VP=>?_) fun VP=>?_
  ·exact jb (Vi VP)
  exact jb (Vj VP rfl)
 refine gg ?_;refine cb ho (fun ho=>?_) fun ho=>?_
 ·exact fin ho hr▸rt
 refine lo ho hr (fun z=>∃x28,z (.l1 x28) [(1,i6 Xo),(2,pt b4),(6,i6 x28)] [Zl b4 [Z6,Za,Z5,i6 Z0.Zo] 25]) (fun _ z=>⟨0,z⟩) ?_;rintro _ _ _ ⟨x28,m29,o,_,_,ho,hr,h⟩;refine en h ?_;refine ip 2 ho fun x32 ho p30=>?_;refine SP.WG see 0 rfl Tryz.underlying34 rfl Zcc.h Zd.Z27 rfl rfl rfl (fun p33=>?_);refine SP.Z2k see 0 rfl Tryz.underlying32 rfl rfl rfl (fun v35=>gg ?_);refine ci ho (fun ho=>?_) fun ho=>?_
 ·refine ip 5 ho fun x39 ho p37=>?_;refine SP.WG see 0 rfl Tryz.underlying34 rfl Zcc.h Zd.Z27 rfl rfl rfl (fun p40=>?_);refine SP.Z2k see 0 rfl Tryz.underlying32 rfl rfl rfl (fun v42=>gg ?_);refine ip 0 ho fun x46 ho p44=>?_;refine SP.WG see 0 rfl Tryz.underlying43 rfl Tj.h Z8.KP rfl rfl rfl (fun p47=>gg ?_);refine ci ho (fun ho=>?_) fun ho=>?_
  ·exact fin ho hr▸rt
  exact lw ho hr (fun _ z=>⟨(wr (x28+1)),z⟩)
 exact fin ho hr▸rt
inductive ZK.S where
  |start
  |l1 (J5:Int)
  |l2 (TW:Int)
  |l3 (TW:Int) (t196:(List Int)×Int) (Z8u:Bool) (JK:Int)
def ZK.j1(Z0:Zc)(TW:Int):Option (ZK.S⊕Int):=
  some (.inl (.l2 (IntKind.i64.wrap (TW+1))))
def ZK.j2(Z0:Zc)(TW:Int)(t196:(List Int)×Int)(JK:Int)(Zay:Bool):Option (ZK.S⊕Int):=
  some (.inl (.l3 TW t196 Zay (IntKind.i64.wrap (JK+1))))
def ZK.F(Z0:Zc):ZK.S→Option (ZK.S⊕Int)
  | .start=>some (.inl (.l1 0))
  | .l1 J5=>if J5<(Z0.Methods.length:Int)then((ZF.f Z0 J5).bind fun ZiX=>if ZiX.2≠0 then(some (.inr ZiX.2))else(some (.inl (.l1 (IntKind.i64.wrap (J5+1))))))else(some (.inl (.l2 0)))
  | .l2 TW=>if TW<(Z0.Methods.length:Int)then((elt Z0.Methods TW).bind fun Z36=>if(!Z36.Reads)=true then(ZK.j1 Z0 TW)else((Xr.f Z0 TW).bind fun ZiY=>(ZF.f Z0 TW).bind fun t196=>some (.inl (.l3 TW t196 ZiY.1 0))))else(some (.inr 0))
  | .l3 TW t196 Z8u JK=>if JK<(t196.1.length:Int)then(if Z8u=true then(ZK.j2 Z0 TW t196 JK true)else((elt t196.1 JK).bind fun Zoo=>(elt Z0.Methods Zoo).bind fun ZiZ=>ZK.j2 Z0 TW t196 JK (!ZiZ.Reads)))else(if Z8u=true then(some (.inr 130))else(ZK.j1 Z0 TW))
def ZK.f(Z0:Zc):Option Int:=Zw (ZK.F Z0) .start
theorem ZK.ok{Z0 Z6 Za Z5}(r)(H:ZK.f Z0=some r):Ok Tryz.prog 55 [.agg #[Z6,Za,Z5,i6 Z0.Zo]] [Z9 Z4 Z6 Z0.ZA,Z9 Z4 Za Z0.Pool,Z9 Zd Z5 Z0.Methods] fun v=>HO.pure (v=i6 r):=by
 refine oq 74 Tryz.func55 fun w hV see pb=>?_;obtain⟨m0,o,ho,hr⟩:=rn H;refine bx fun b4=>?_;refine lo ho hr (fun z=>∃J5,z (.l1 J5) [(1,pt b4),(3,i6 J5)] [Zl b4 [Z6,Za,Z5,i6 Z0.Zo] 25]) (fun _ z=>⟨0,z⟩) ?_;rintro _ _ _ ⟨J5,Zwp,o,_,_,ho,hr,h⟩;refine en h ?_;refine ci ho (fun ho=>?_) fun ho=>?_
 ·refine k1 ZF.ok ho fun ZiX ho ZDr=>?_;refine ci ho (fun ho=>?_) fun ho=>?_
  ·exact fin ho hr▸rt
  exact lw ho hr (fun _ z=>⟨(wr (J5+1)),z⟩) (sO [1])
 refine lo ho hr (fun z=>∃TW,z (.l2 TW) [(1,pt b4),(6,i6 TW)] [Zl b4 [Z6,Za,Z5,i6 Z0.Zo] 25]) (fun _ z=>⟨0,z⟩) ?_;rintro _ _ _ ⟨TW,ZDs,o,_,_,ho,hr,h⟩;refine en h ?_;refine ci (ht:=id) ho (fun ho=>?_) fun ho=>?_;rotate_left
 ·exact fin ho hr▸rt
 refine go ?_;refine ji hr (fun z=>z (ZK.j1 Z0 TW) [(1,pt b4),(6,i6 TW)] [Zl b4 [Z6,Za,Z5,i6 Z0.Zo] 25]) ?_ ?_
 ·rintro _ _ ⟨ZDt,o,_,ho,hr,h⟩;refine en h ?_;exact lw ho hr (fun _ z=>⟨(wr (TW+1)),z⟩)
 refine gg ?_;refine ip 2 ho fun Z36 ho ZDu=>?_;refine SP.WG see 0 rfl Tryz.underlying34 rfl sz4.h Zd.Z5I rfl rfl rfl (fun ZDv=>gg ?_);refine cb ho (fun ho=>?_) fun ho=>?_
 ·exact mi ho hr (fun _ z=>z)
 refine kv Xr.ok ho fun ZiY ho=>?_;refine k1 ZF.ok ho fun t196 ho ZfJ=>?_;refine CP.Vk see 0 rfl ?_;refine lo ho hr (fun z=>∃Z8u JK,z (.l3 TW t196 Z8u JK) [(1,pt b4),(6,i6 TW),(7,.bool Z8u),(9,ZfJ),(11,i6 JK)] [Zl b4 [Z6,Za,Z5,i6 Z0.Zo] 25]) (fun _ z=>⟨ZiY.1,0,z⟩) ?_ (hb:=pe [Z9 ki ZfJ t196.1,Z9 Z4 Z6 Z0.ZA,Z9 Z4 Za Z0.Pool,Z9 Zd Z5 Z0.Methods]);rintro _ _ _ ⟨Z8u,JK,ZDw,o,_,_,ho,hr,h⟩;refine en h ?_;refine ci (ht:=id) ho (fun ho=>?_) fun ho=>?_;rotate_left
 ·refine cb ho (fun ho=>?_) fun ho=>?_
  ·exact fin ho hr▸rt
  exact mi ho hr (fun _ z=>z)
 refine go ?_;refine ji hr (fun z=>∃Zay,z (ZK.j2 Z0 TW t196 JK Zay) [(1,pt b4),(6,i6 TW),(7,.bool Zay),(9,ZfJ),(11,i6 JK)] [Zl b4 [Z6,Za,Z5,i6 Z0.Zo] 25]) ?_ ?_ (hb:=pe [Z9 ki ZfJ t196.1,Z9 Z4 Z6 Z0.ZA,Z9 Z4 Za Z0.Pool,Z9 Zd Z5 Z0.Methods])
 ·rintro _ _ ⟨Zay,ZDx,o,_,ho,hr,h⟩;refine en h ?_;exact lw ho hr (fun _ z=>⟨Zay,(wr (JK+1)),z⟩)
 refine gg ?_;refine dr ?_;refine d1 0 ?_;refine d1 1 ?_;rcases TD ho with ⟨hc,ho⟩|⟨hc,ho⟩
 ·have ZsN:=hc;clear hc;refine DA.ph 2 8 ?_;refine DT.is (d:=61) (b:=true) rfl ZsN ?_;refine DT.tn 2 ?_;refine DT.tn 3 ?_;refine DT.tn 4 ?_;refine DT.tn 5 ?_;refine DT.tn 6 ?_;refine DT.tn 7 ?_;refine dn ?_;refine DA.ph 8 9 ?_;refine DT.tn 8 ?_;refine dn ?_;refine DA.ph 9 10 ?_;refine DT.tn 9 ?_;refine dn ?_;refine DA.ph 10 11 ?_;refine DT.tn 10 ?_;refine dn ?_;refine DA.ph 11 12 ?_;refine DT.tn 11 ?_;refine dn ?_;refine d1 12 ?_;refine d1 13 ?_;refine dz ?_;exact mi ho hr (fun _ z=>⟨true,z⟩)
 have ZsO:=(bf hc)
 clear hc;refine ge 0 ho fun Zoo ho ZDy Zop=>?_;refine gu 0 ?_;refine DA.ph 2 8 ?_;refine DT.is (d:=61) (b:=false) rfl ZsO ?_;refine DT.tk 2 ?_;refine DT.tk 3 ?_;refine DT.tk 4 ?_;refine DT.tk 5 ?_;refine DT.tv 6 rfl (Val.ie rfl rfl Zop) ?_;refine tk 7 ?_;refine dn ?_;refine d1 8 ?_;refine ip 5 ho fun ZiZ ho ZDz=>?_;refine d1 9 ?_;refine SP.WG see 0 rfl Tryz.underlying34 rfl sz4.h Zd.Z5I rfl rfl rfl (fun ZDA=>gg ?_);refine d1 10 ?_;refine d1 11 ?_;refine d1 12 ?_;refine d1 13 ?_;refine dz ?_;exact mi ho hr (fun _ z=>⟨(!ZiZ.Reads),z⟩)
inductive X6.S where
  |start
  |l1 (Uq:Int)
def X6.F(Z0:Zc):X6.S→Option (X6.S⊕((List ZM)×Int))
  | .start=>(TU.f Z0).bind fun t6=>if t6≠0 then(some (.inr ([],t6)))else((if Z0.Zo≥0 then((elt Z0.Methods Z0.Zo).bind fun Vh=>(X9.f Vh).bind fun t19=>some (!t19))else(some false)).bind fun t20=>if t20=true then(some (.inr ([],70)))else(some (.inl (.l1 0))))
  | .l1 Uq=>if Uq<(Z0.Methods.length:Int)then((ZB.f Z0 Uq).bind fun t39=>if t39.2≠0 then(some (.inr ([],t39.2)))else(some (.inl (.l1 (IntKind.i64.wrap (Uq+1))))))else((ZH.f Z0).bind fun t43=>if t43.2≠0 then(some (.inr ([],t43.2)))else((Yv.f Z0).bind fun t47=>if t47.2≠0 then(some (.inr ([],t47.2)))else((ZK.f Z0).bind fun t51=>if t51≠0 then(some (.inr ([],t51)))else(some (.inr (t47.1,0))))))
def X6.f(Z0:Zc):Option ((List ZM)×Int):=Zw (X6.F Z0) .start
theorem X6.ok{Z0 Z6 Za Z5}(r)(H:X6.f Z0=some r):Ok Tryz.prog 24 [.agg #[Z6,Za,Z5,i6 Z0.Zo]] [Z9 Z4 Z6 Z0.ZA,Z9 Z4 Za Z0.Pool,Z9 Zd Z5 Z0.Methods] fun v=>HO.ex fun u0:Value=>HO.Yr (v=.tuple #[u0,i6 r.2]) (HO.Yk [Zg YN 45 u0 r.1]):=by
 refine oq 65 Tryz.func24 fun w hV see pb=>?_;obtain⟨m0,o,ho,hr⟩:=rn H;refine bx fun b4=>?_;refine kv TU.ok ho fun t6 ho=>?_;refine ci ho (fun ho=>?_) fun ho=>?_
 ·exact fin ho hr▸rt (fun _ h=>sQ [0] (nO YN 45 h))
 obtain⟨t20,Zhc,ho⟩:=bind_some ho;refine sj 9 [1] 26 ho ?_ ?_;rotate_left
 ·refine bi 17 Zhc (fun hq9 ho=>?_) fun hq9 ho=>?_
  ·refine ip 2 ho fun Vh ho p10=>?_;refine Zd.load see 0 rfl Tryz.underlying34 rfl Z3D.h rfl rfl rfl (fun v13 v15 v17=>?_);refine kv X9.ok ho fun t19 ho=>?_;obtain rfl:=sI ho;exact QE.jn fun w2 hw=>(St.V5 [4,5,6] rfl hw)
  obtain rfl:=sI ho;exact jn
 clear Zhc;refine gg ?_;refine cb ho (fun ho=>?_) fun ho=>?_
 ·exact fin ho hr▸rt (fun _ h=>sQ [0] (nO YN 45 h))
 refine lo ho hr (fun z=>∃Uq,z (.l1 Uq) [(1,pt b4),(5,i6 Uq)] [Zl b4 [Z6,Za,Z5,i6 Z0.Zo] 25]) (fun _ z=>⟨0,z⟩) ?_;rintro _ _ _ ⟨Uq,m38,o,_,_,ho,hr,h⟩;refine en h ?_;refine ci ho (fun ho=>?_) fun ho=>?_
 ·refine k1 ZB.ok ho fun t39 ho v40=>?_;refine ci ho (fun ho=>?_) fun ho=>?_
  ·exact fin ho hr▸rt (fun _ h=>sQ [0] (nO YN 45 h))
  exact lw ho hr (fun _ z=>⟨(wr (Uq+1)),z⟩) (sO [1])
 refine k1 ZH.ok ho fun t43 ho v44=>?_;refine ci ho (fun ho=>?_) fun ho=>?_
 ·exact fin ho hr▸rt (fun _ h=>sQ [0] (nO YN 45 h))
 refine k1 Yv.ok ho fun t47 ho v48=>?_;refine ci ho (fun ho=>?_) fun ho=>?_
 ·exact fin ho hr▸rt (fun _ h=>sQ [0] (nO YN 45 h))
 refine kv ZK.ok ho fun t51 ho=>?_;refine ci ho (fun ho=>?_) fun ho=>?_
 ·exact fin ho hr▸rt (fun _ h=>sQ [0] (nO YN 45 h))
 exact fin ho hr▸rt (sO [0])
def TJ.f(Zx:List Int):Option (Zc×(List ZM)×Int):=
  (ZX.f Zx).bind fun t4=>if t4.2≠0 then(some ((⟨[],[],[],0⟩:Zc),[],t4.2))else((X6.f t4.1).bind fun t17=>if t17.2≠0 then(some ((⟨[],[],[],0⟩:Zc),[],t17.2))else(some (t4.1,t17.1,0)))
theorem TJ.ok{Zx Yf}(r)(ho:TJ.f Zx=some r):Ok Tryz.prog 28 [Yf] [Z9 kb Yf Zx] fun v=>HO.ex fun u0:Value=>HO.ex fun u1:Value=>HO.ex fun u2:Value=>HO.ex fun u3:Value=>HO.Yr (v=.tuple #[.agg #[u0,u1,u2,i6 r.1.Zo],u3,i6 r.2.2]) (HO.Yk [Zg Z4 100 u0 r.1.ZA,Zg Z4 100 u1 r.1.Pool,Vf YI 34 u2 r.1.Methods,Zg YN 45 u3 r.2.1]):=by
 refine oq 29 Tryz.func28 fun w hV see pb=>?_;refine al fun b2=>?_;refine k3 ZX.ok ho fun t4 ho v5 v6 v7=>?_;refine al (h:=fun _=>id) fun b11=>?_;refine sh (h:=id) 1 fun Z8W=>?_;refine sh (h:=id) 2 fun Z8X=>?_;refine SP.have (fun w2 hw=>Vf.shape (St.own 3 rfl see.sub see.dj hw)) (fun Z8Y=>?_);refine st 0 ?_;refine ci ho (fun ho=>?_) fun ho=>?_
 ·refine bd [nl,nl,nl,i6 0] ?_;refine st 4 ?_;exact sI ho▸rt (fun _ h=>sQ [3,2,1,0] (nO YN 45 (St.Tc (Vf.nil YI 34) (nO Z4 100 (nO Z4 100 h))))) (rs:=[.cell 2 25,.tmp 3,.tmp 4]) (vs:=[.agg #[nl,nl,nl,i6 0],nl,i6 t4.2]) (hv:=⟨Xp.Z3T 4 rfl rfl Tryz.underlying25 rfl Z8d.h,Xp.tmp rfl,Xp.tmp rfl,trivial⟩) (hk:=fun a b p s=>⟨_,_,_,_,rfl,s⟩)
 obtain⟨t17,hc,ho⟩:=bind_some ho;refine SP.Z1M see (caps:=[]) _ Zua.h rfl rfl rfl rfl (fun w2 hs=>X6.ok _ hc w2 (hp w2) (Sub.refl _) (aS (Zg.read (St.own 1 rfl see.sub see.dj hs) (Sub.refl _) (Sub.refl _)) (aS (Zg.read (St.own 2 rfl see.sub see.dj hs) (Sub.refl _) (Sub.refl _)) (aS (Vf.read (St.own 3 rfl see.sub see.dj hs) (Sub.refl _) (Sub.refl _)) (All.nil _))))) (fun v a a2 b ⟨v18,e,h⟩=>⟨v18,e,(Sep.Z3U (fun _=>Zg.flip (fun _ _ _ _ h=>h)) (fun _=>Sep.Z5E)) h⟩) (SP.k1 fun v18=>?_);clear hc;refine gg ?_;refine ci ho (fun ho=>?_) fun ho=>?_
 ·refine bd [nl,nl,nl,i6 0] ?_;refine st 5 ?_;exact sI ho▸rt (fun _ h=>sQ [3,2,1,0] (nO YN 45 (St.Tc (Vf.nil YI 34) (nO Z4 100 (nO Z4 100 h))))) (rs:=[.cell 2 25,.tmp 3,.tmp 4]) (vs:=[.agg #[nl,nl,nl,i6 0],nl,i6 t17.2]) (hv:=⟨Xp.Z3T 5 rfl rfl Tryz.underlying25 rfl Z8d.h,Xp.tmp rfl,Xp.tmp rfl,trivial⟩) (hk:=fun a b p s=>⟨_,_,_,_,rfl,s⟩)
 refine sh (h:=id) 2 fun Z8W=>?_;refine sh (h:=id) 3 fun Z8X=>?_;refine SP.have (fun w2 hw=>Vf.shape (St.own 4 rfl see.sub see.dj hw)) (fun Z8Y=>?_);refine st 5 ?_;exact sI ho▸rt (sO [2,3,4,0]) (rs:=[.cell 2 25,.tmp 3,.tmp 4]) (vs:=[.agg #[v5,v6,v7,i6 t4.1.Zo],v18,i6 0]) (hv:=⟨Xp.Z3T 5 rfl rfl Tryz.underlying25 rfl Z8d.h,Xp.tmp rfl,Xp.tmp rfl,trivial⟩) (hk:=fun a b p s=>⟨_,_,_,_,rfl,s⟩)
inductive XD.S where
  |start
  |l1 (Vh:Int)
def XD.F(a_0 b_1:List Zp):XD.S→Option (XD.S⊕Bool)
  | .start=>if(a_0.length:Int)≠(b_1.length:Int)then(some (.inr false))else(some (.inl (.l1 0)))
  | .l1 Vh=>if Vh<(a_0.length:Int)then((elt a_0 Vh).bind fun WS=>(elt b_1 Vh).bind fun x20=>if(!(WS.Kind==x20.Kind&&(WS.A==x20.A&&(WS.B==x20.B))))=true then(some (.inr false))else(some (.inl (.l1 (IntKind.i64.wrap (Vh+1))))))else(some (.inr true))
def XD.f(a_0 b_1:List Zp):Option Bool:=Zw (XD.F a_0 b_1) .start
theorem XD.ok{a_0 b_1 Z0h Z0i}(r)(H:XD.f a_0 b_1=some r):Ok Tryz.prog 56 [Z0h,Z0i] [Z9 Z4 Z0h a_0,Z9 Z4 Z0i b_1] fun v=>HO.pure (v=.bool r):=by
 refine oq 26 Tryz.func56 fun w hV see pb=>?_;obtain⟨m0,o,ho,hr⟩:=rn H;refine ci ho (fun ho=>?_) fun ho=>?_
 ·exact fin ho hr▸rt
 refine lo ho hr (fun z=>∃Vh,z (.l1 Vh) [(0,Z0h),(1,Z0i),(5,i6 Vh)] []) (fun _ z=>⟨0,z⟩) ?_;rintro _ _ _ ⟨Vh,m13,o,_,_,ho,hr,h⟩;refine en h ?_;refine ci ho (fun ho=>?_) fun ho=>?_;rotate_left
 ·exact fin ho hr▸rt
 refine dr ?_;refine ge 0 ho fun WS ho p14 Z3X=>?_;refine gu 0 ?_;refine ge 3 ho fun x20 ho p18 Z3Y=>?_;refine gu 0 ?_;refine DA.ph 0 8 ?_;refine DT.tk 0 ?_;refine DT.tk 1 ?_;refine DT.tv 2 rfl (Val.ie rfl rfl Z3X) ?_;refine tk 3 ?_;refine DT.tk 4 ?_;refine DT.tk 5 ?_;refine DT.tv 6 rfl (Val.ie rfl rfl Z3Y) ?_;refine tk 7 ?_;refine dn ?_;refine d1 8 ?_;refine SP.val (Val.Zii (by kernel_rfl) (fun w2=>Z8S 9998 w2 WS.Kind x20.Kind WS.A x20.A WS.B x20.B) rfl rfl) rfl rfl rfl (gg ?_);refine dz ?_;refine cb ho (fun ho=>?_) fun ho=>?_
 ·exact fin ho hr▸rt
 exact lw ho hr (fun _ z=>⟨(wr (Vh+1)),z⟩)
def Kz.f(a_0 b_1:Zb):Option Bool:=
  (ZO.f a_0.Args b_1.Args).bind fun t11=>(if t11=true then((ZO.f a_0.Zk b_1.Zk).bind fun t14=>some t14)else(some false)).bind fun Kj=>some (((((Kj&&(decide (a_0.Result=b_1.Result)))&&(a_0.Reads==b_1.Reads))&&(decide (a_0.Fuel=b_1.Fuel)))&&(decide (a_0.Stack=b_1.Stack)))&&(decide (a_0.Heap=b_1.Heap)))
theorem Kz.ok{a_0 b_1 Z9o Z6T Z9p Z9q Z6U Z9r}(r)(ho:Kz.f a_0 b_1=some r):Ok Tryz.prog 57 [.agg #[Z9o,Z6T,i8 a_0.Result,.bool a_0.Reads,i6 a_0.Fuel,i6 a_0.Stack,i6 a_0.Heap,Z9p],.agg #[Z9q,Z6U,i8 b_1.Result,.bool b_1.Reads,i6 b_1.Fuel,i6 b_1.Stack,i6 b_1.Heap,Z9r]] [Z9 kb Z9o a_0.Args,Z9 kb Z6T a_0.Zk,Z9 Z8 Z9p a_0.Code,Z9 kb Z9q b_1.Args,Z9 kb Z6U b_1.Zk,Z9 Z8 Z9r b_1.Code] fun v=>HO.pure (v=.bool r):=by
 refine oq 52 Tryz.func57 fun w hV see pb=>?_;refine bx fun b7=>?_;refine bx fun b9=>?_;refine kv ZO.ok ho fun t11 ho=>?_;obtain⟨Kj,Z3w,ho⟩:=bind_some ho;refine SP.jn 6 [2,3] 16 (.bool Kj) ?_ ?_;rotate_left
 ·refine bc 10 Z3w (fun Z31 ho=>?_) fun Z31 ho=>?_
  ·refine kv ZO.ok ho fun t14 ho=>?_;obtain rfl:=sI ho;exact jn
  obtain rfl:=sI ho;exact jn
 clear Z3w;refine gg ?_;refine SP.jn 6 [2,3] 23 (.bool (Kj&&(decide (a_0.Result=b_1.Result)))) ?_ ?_;rotate_left
 ·refine bb 17 (fun Z24=>?_) fun Z24=>?_
  ·exact jb (WH Z24 rfl)
  exact jb (WI Z24)
 refine gg ?_;refine SP.jn 6 [2,3] 30 (.bool ((Kj&&(decide (a_0.Result=b_1.Result)))&&(a_0.Reads==b_1.Reads))) ?_ ?_;rotate_left
 ·refine bb 24 (fun Z4B=>?_) fun Z4B=>?_
  ·refine SP.val (Val.ZtD Tryz.underlying4 rfl rfl) rfl rfl rfl (gg ?_);exact jb (WH Z4B rfl)
  exact jb (WI Z4B)
 refine gg ?_;refine SP.jn 6 [2,3] 37 (.bool (((Kj&&(decide (a_0.Result=b_1.Result)))&&(a_0.Reads==b_1.Reads))&&(decide (a_0.Fuel=b_1.Fuel)))) ?_ ?_;rotate_left
 ·refine bb 31 (fun Z8o=>?_) fun Z8o=>?_
  ·exact jb (WH Z8o rfl)
  exact jb (WI Z8o)
 refine gg ?_;refine SP.jn 6 [2,3] 44 (.bool ((((Kj&&(decide (a_0.Result=b_1.Result)))&&(a_0.Reads==b_1.Reads))&&(decide (a_0.Fuel=b_1.Fuel)))&&(decide (a_0.Stack=b_1.Stack)))) ?_ ?_
 ·refine gg ?_;refine SP.jn 6 [] 51 (.bool (((((Kj&&(decide (a_0.Result=b_1.Result)))&&(a_0.Reads==b_1.Reads))&&(decide (a_0.Fuel=b_1.Fuel)))&&(decide (a_0.Stack=b_1.Stack)))&&(decide (a_0.Heap=b_1.Heap)))) ?_ ?_
  ·refine gg ?_;exact sI ho▸rt
  refine bb 45 (fun Z8q=>?_) fun Z8q=>?_
  ·exact jb (WH Z8q rfl)
  exact jb (WI Z8q)
 refine bb 38 (fun Z8p=>?_) fun Z8p=>?_
 ·exact jb (WH Z8p rfl)
 exact jb (WI Z8p)
inductive Wm.S where
  |start
  |l1 (Vh:Int)
def Wm.F(a_0 b_1:List Z7):Wm.S→Option (Wm.S⊕Bool)
  | .start=>if(a_0.length:Int)≠(b_1.length:Int)then(some (.inr false))else(some (.inl (.l1 0)))
  | .l1 Vh=>if Vh<(a_0.length:Int)then((elt a_0 Vh).bind fun WS=>(elt b_1 Vh).bind fun x20=>if(!(WS.Op==x20.Op&&(WS.A==x20.A&&(WS.B==x20.B))))=true then(some (.inr false))else(some (.inl (.l1 (IntKind.i64.wrap (Vh+1))))))else(some (.inr true))
def Wm.f(a_0 b_1:List Z7):Option Bool:=Zw (Wm.F a_0 b_1) .start
theorem Wm.ok{a_0 b_1 Z0h Z0i}(r)(H:Wm.f a_0 b_1=some r):Ok Tryz.prog 58 [Z0h,Z0i] [Z9 Z8 Z0h a_0,Z9 Z8 Z0i b_1] fun v=>HO.pure (v=.bool r):=by
 refine oq 26 Tryz.func58 fun w hV see pb=>?_;obtain⟨m0,o,ho,hr⟩:=rn H;refine ci ho (fun ho=>?_) fun ho=>?_
 ·exact fin ho hr▸rt
 refine lo ho hr (fun z=>∃Vh,z (.l1 Vh) [(0,Z0h),(1,Z0i),(5,i6 Vh)] []) (fun _ z=>⟨0,z⟩) ?_;rintro _ _ _ ⟨Vh,m13,o,_,_,ho,hr,h⟩;refine en h ?_;refine ci ho (fun ho=>?_) fun ho=>?_;rotate_left
 ·exact fin ho hr▸rt
 refine dr ?_;refine ge 0 ho fun WS ho p14 Z3X=>?_;refine gu 0 ?_;refine ge 3 ho fun x20 ho p18 Z3Y=>?_;refine gu 0 ?_;refine DA.ph 0 8 ?_;refine DT.tk 0 ?_;refine DT.tk 1 ?_;refine DT.tv 2 rfl (Val.ie rfl rfl Z3X) ?_;refine tk 3 ?_;refine DT.tk 4 ?_;refine DT.tk 5 ?_;refine DT.tv 6 rfl (Val.ie rfl rfl Z3Y) ?_;refine tk 7 ?_;refine dn ?_;refine d1 8 ?_;refine SP.val (Val.Zii (by kernel_rfl) (fun w2=>Zpe 9998 w2 WS.Op x20.Op WS.A x20.A WS.B x20.B) rfl rfl) rfl rfl rfl (gg ?_);refine dz ?_;refine cb ho (fun ho=>?_) fun ho=>?_
 ·exact fin ho hr▸rt
 exact lw ho hr (fun _ z=>⟨(wr (Vh+1)),z⟩)
inductive YX.S where
  |start
  |l1 (x64:Int)
def YX.j1(a_0 b_1:Zc)(x64:Int)(Zdb:Bool):Option (YX.S⊕Bool):=
  if Zdb=true then(some (.inr false))else(some (.inl (.l1 (IntKind.i64.wrap (x64+1)))))
def YX.F(a_0 b_1:Zc):YX.S→Option (YX.S⊕Bool)
  | .start=>(if a_0.Zo≠b_1.Zo then(some true)else((XD.f a_0.ZA b_1.ZA).bind fun Kh=>some (!Kh))).bind fun t14=>(if t14=true then(some true)else((XD.f a_0.Pool b_1.Pool).bind fun t17=>some (!t17))).bind fun Te=>if(Te||(decide ((a_0.Methods.length:Int)≠(b_1.Methods.length:Int))))=true then(some (.inr false))else(some (.inl (.l1 0)))
  | .l1 x64=>if x64<(a_0.Methods.length:Int)then((elt a_0.Methods x64).bind fun U9=>(elt b_1.Methods x64).bind fun x78=>(Kz.f U9 x78).bind fun t86=>if(!t86)=true then(YX.j1 a_0 b_1 x64 true)else((elt a_0.Methods x64).bind fun x91=>(elt b_1.Methods x64).bind fun x99=>(Wm.f x91.Code x99.Code).bind fun t105=>YX.j1 a_0 b_1 x64 (!t105)))else(some (.inr true))
def YX.f(a_0 b_1:Zc):Option Bool:=Zw (YX.F a_0 b_1) .start
theorem YX.ok{a_0 b_1 Z1Z Z40 Z20 Z21 Z41 Z22}(r)(H:YX.f a_0 b_1=some r):Ok Tryz.prog 26 [.agg #[Z1Z,Z40,Z20,i6 a_0.Zo],.agg #[Z21,Z41,Z22,i6 b_1.Zo]] [Z9 Z4 Z1Z a_0.ZA,Z9 Z4 Z40 a_0.Pool,Z9 Zd Z20 a_0.Methods,Z9 Z4 Z21 b_1.ZA,Z9 Z4 Z41 b_1.Pool,Z9 Zd Z22 b_1.Methods] fun v=>HO.pure (v=.bool r):=by
 refine oq 71 Tryz.func26 fun w hV see pb=>?_;obtain⟨m0,o,ho,hr⟩:=rn H;refine bx fun b7=>?_;refine bx fun b9=>?_;obtain⟨t14,Zhd,ho⟩:=bind_some ho;refine SP.jn 7 [2,3] 18 (.bool t14) ?_ ?_;rotate_left
 ·refine bi 11 Zhd (fun hq12 ho=>?_) fun hq12 ho=>?_
  ·obtain rfl:=sI ho;exact jn
  refine kv XD.ok ho fun Kh ho=>?_;obtain rfl:=sI ho;exact jn
 clear Zhd;refine gg ?_;obtain⟨Te,Z6z,ho⟩:=bind_some ho;refine SP.jn 7 [2,3] 26 (.bool Te) ?_ ?_;rotate_left
 ·refine bc 19 Z6z (fun Zww ho=>?_) fun Zww ho=>?_
  ·obtain rfl:=sI ho;exact jn
  refine kv XD.ok ho fun t17 ho=>?_;obtain rfl:=sI ho;exact jn
 clear Z6z;refine gg ?_;refine sj 8 [2,3] 35 ho ?_ ?_;rotate_left
 ·refine bb 27 (fun Z8r=>?_) fun Z8r=>?_
  ·exact jb (Vi Z8r)
  exact jb (Vj Z8r rfl)
 refine gg ?_;refine cb ho (fun ho=>?_) fun ho=>?_
 ·exact fin ho hr▸rt
 refine lo ho hr (fun z=>∃x64,z (.l1 x64) [(2,pt b7),(3,pt b9),(5,i6 x64)] [Zl b9 [Z21,Z41,Z22,i6 b_1.Zo] 25,Zl b7 [Z1Z,Z40,Z20,i6 a_0.Zo] 25]) (fun _ z=>⟨0,z⟩) ?_;rintro _ _ _ ⟨x64,m65,o,_,_,ho,hr,h⟩;refine en h ?_;refine ci (ht:=id) ho (fun ho=>?_) fun ho=>?_;rotate_left
 ·exact fin ho hr▸rt
 refine go ?_;refine CP.seq ?_;refine go ?_;refine ji hr (fun z=>∃Zdb,z (YX.j1 a_0 b_1 x64 Zdb) [(2,pt b7),(3,pt b9),(5,i6 x64),(70,.bool Zdb)] [Zl b9 [Z21,Z41,Z22,i6 b_1.Zo] 25,Zl b7 [Z1Z,Z40,Z20,i6 a_0.Zo] 25]) ?_ ?_
 ·rintro _ _ ⟨Zdb,Zfe,o,_,ho,hr,h⟩;refine en h ?_;refine cb ho (fun ho=>?_) fun ho=>?_
  ·exact fin ho hr▸rt
  exact lw ho hr (fun _ z=>⟨(wr (x64+1)),z⟩)
 refine dr ?_;refine ge 2 ho fun U9 ho p66 Z94=>?_;refine DA.ghost (fun w2 h=>h.Z1W see 0 rfl (fun((v69,v71,v73):Value×Value×Value)=>[v69,v71,i8 U9.Result,.bool U9.Reads,i6 U9.Fuel,i6 U9.Stack,i6 U9.Heap,v73]) (fun((v69,v71,v73):Value×Value×Value)=>[Z9 kb v69 U9.Args,Z9 kb v71 U9.Zk,Z9 Z8 v73 U9.Code]) (fun h cs ⟨v69,v71,v73,e,p0,p1,p2⟩=>⟨(v69,v71,v73),e,All.cons p0 (All.cons p1 (All.cons p2 (All.nil _)))⟩)) (fun z_ _=>?_);obtain⟨v69,v71,v73⟩:=z_;refine ge 10 ho fun x78 ho p76 Zft=>?_;refine DA.ghost (fun w2 h=>h.Z1W see 0 rfl (fun((v79,v81,v83):Value×Value×Value)=>[v79,v81,i8 x78.Result,.bool x78.Reads,i6 x78.Fuel,i6 x78.Stack,i6 x78.Heap,v83]) (fun((v79,v81,v83):Value×Value×Value)=>[Z9 kb v79 x78.Args,Z9 kb v81 x78.Zk,Z9 Z8 v83 x78.Code]) (fun h cs ⟨v79,v81,v83,e,p0,p1,p2⟩=>⟨(v79,v81,v83),e,All.cons p0 (All.cons p1 (All.cons p2 (All.nil _)))⟩)) (fun z_ _=>?_);obtain⟨v79,v81,v83⟩:=z_;refine DA.ph 0 10 ?_;refine DT.tk 0 ?_;refine DT.tk 1 ?_;refine DT.tk 2 ?_;refine DT.tv 3 rfl (Val.ie rfl rfl Z94) ?_;refine tk 4 ?_;refine DT.tk 5 ?_;refine DT.tk 6 ?_;refine DT.tk 7 ?_;refine DT.tv 8 rfl (Val.ie rfl rfl Zft) ?_;refine tk 9 ?_;refine dn ?_;refine d1 10 ?_;refine kv Kz.ok ho fun t86 ho=>?_;refine d1 11 ?_;refine d1 12 ?_;rcases TD ho with ⟨hc,ho⟩|⟨hc,ho⟩
 ·have Zwx:=hc;clear hc;refine DA.ph 13 25 ?_;refine DT.is (d:=55) (b:=true) rfl Zwx ?_;refine DT.tn 13 ?_;refine DT.tn 14 ?_;refine DT.tn 15 ?_;refine DT.tn 16 ?_;refine DT.tn 17 ?_;refine DT.tn 18 ?_;refine DT.tn 19 ?_;refine DT.tn 20 ?_;refine DT.tn 21 ?_;refine DT.tn 22 ?_;refine DT.tn 23 ?_;refine DT.tn 24 ?_;refine dn ?_;refine DA.ph 25 26 ?_;refine DT.tn 25 ?_;refine dn ?_;refine DA.ph 26 27 ?_;refine DT.tn 26 ?_;refine dn ?_;refine d1 27 ?_;refine dz ?_;exact mi ho hr (fun _ z=>⟨true,z⟩)
 have Zwy:=(bf hc)
 clear hc;refine ge 12 ho fun x91 ho p89 ZsP=>?_;refine DA.ghost (fun w2 h=>h.Jv see 0 rfl Zd.Z27) (fun p92 ZsQ=>?_);refine DA.ghost (fun w2 h=>h.Z1W see 0 rfl (fun(v94:Value)=>[v94]) (fun(v94:Value)=>[Z9 Z8 v94 x91.Code]) (fun h cs ⟨v94,e,p0⟩=>⟨v94,e,All.cons p0 (All.nil _)⟩)) (fun z_ _=>?_)
 rename Value=>v94
 refine ge 19 ho fun x99 ho p97 Zfp=>?_;refine DA.ghost (fun w2 h=>h.Jv see 0 rfl Zd.Z27) (fun Zn8 Z6O=>?_);refine DA.ghost (fun w2 h=>h.Z1W see 0 rfl (fun(Z2D:Value)=>[Z2D]) (fun(Z2D:Value)=>[Z9 Z8 Z2D x99.Code]) (fun h cs ⟨Z2D,e,p0⟩=>⟨Z2D,e,All.cons p0 (All.nil _)⟩)) (fun z_ _=>?_)
 rename Value=>Z2D
 refine DA.ph 13 25 ?_;refine DT.is (d:=55) (b:=false) rfl Zwy ?_;refine DT.tk 13 ?_;refine DT.tk 14 ?_;refine DT.tk 15 ?_;refine DT.tv 16 rfl (Val.ie rfl rfl ZsP) ?_;refine DT.tv 17 rfl (Val.fe rfl ZsQ) ?_;refine tk 18 ?_;refine DT.tk 19 ?_;refine DT.tk 20 ?_;refine DT.tk 21 ?_;refine DT.tv 22 rfl (Val.ie rfl rfl Zfp) ?_;refine DT.tv 23 rfl (Val.fe rfl Z6O) ?_;refine tk 24 ?_;refine dn ?_;refine d1 25 ?_;refine kv Wm.ok ho fun t105 ho=>?_;refine d1 26 ?_;refine d1 27 ?_;refine dz ?_;exact mi ho hr (fun _ z=>⟨(!t105),z⟩)
inductive Wn.S where
  |start
  |l1 (Vh:Int)
def Wn.F(a_0 b_1:List ZM):Wn.S→Option (Wn.S⊕Bool)
  | .start=>if(a_0.length:Int)≠(b_1.length:Int)then(some (.inr false))else(some (.inl (.l1 0)))
  | .l1 Vh=>if Vh<(a_0.length:Int)then((elt a_0 Vh).bind fun WS=>(elt b_1 Vh).bind fun x20=>if(!(WS.Fuel==x20.Fuel&&(WS.Stack==x20.Stack&&(WS.Heap==x20.Heap))))=true then(some (.inr false))else(some (.inl (.l1 (IntKind.i64.wrap (Vh+1))))))else(some (.inr true))
def Wn.f(a_0 b_1:List ZM):Option Bool:=Zw (Wn.F a_0 b_1) .start
theorem Wn.ok{a_0 b_1 Z0h Z0i}(r)(H:Wn.f a_0 b_1=some r):Ok Tryz.prog 21 [Z0h,Z0i] [Z9 YN Z0h a_0,Z9 YN Z0i b_1] fun v=>HO.pure (v=.bool r):=by
 refine oq 26 Tryz.func21 fun w hV see pb=>?_;obtain⟨m0,o,ho,hr⟩:=rn H;refine ci ho (fun ho=>?_) fun ho=>?_
 ·exact fin ho hr▸rt
 refine lo ho hr (fun z=>∃Vh,z (.l1 Vh) [(0,Z0h),(1,Z0i),(5,i6 Vh)] []) (fun _ z=>⟨0,z⟩) ?_;rintro _ _ _ ⟨Vh,m13,o,_,_,ho,hr,h⟩;refine en h ?_;refine ci ho (fun ho=>?_) fun ho=>?_;rotate_left
 ·exact fin ho hr▸rt
 refine dr ?_;refine ge 0 ho fun WS ho p14 Z3X=>?_;refine gu 0 ?_;refine ge 3 ho fun x20 ho p18 Z3Y=>?_;refine gu 0 ?_;refine DA.ph 0 8 ?_;refine DT.tk 0 ?_;refine DT.tk 1 ?_;refine DT.tv 2 rfl (Val.ie rfl rfl Z3X) ?_;refine tk 3 ?_;refine DT.tk 4 ?_;refine DT.tk 5 ?_;refine DT.tv 6 rfl (Val.ie rfl rfl Z3Y) ?_;refine tk 7 ?_;refine dn ?_;refine d1 8 ?_;refine SP.val (Val.Zii (by kernel_rfl) (fun w2=>Zpf 9998 w2 WS.Fuel x20.Fuel WS.Stack x20.Stack WS.Heap x20.Heap) rfl rfl) rfl rfl rfl (gg ?_);refine dz ?_;refine cb ho (fun ho=>?_) fun ho=>?_
 ·exact fin ho hr▸rt
 exact lw ho hr (fun _ z=>⟨(wr (Vh+1)),z⟩)
def Ww.f(Zx:List Int):Option Bool:=
  if(Zx.length:Int)>3000 then(some true)else(if(([]:List Int).length+Zx.length)*1≤140737488355328 then((Z0A.f (([]:List Int)++Zx)).bind fun t6=>(TJ.f Zx).bind fun t17=>(if t6.2.2=t17.2.2 then((YX.f t6.1 t17.1).bind fun t30=>some t30)else(some false)).bind fun t31=>(if t31=true then((Wn.f t6.2.1 t17.2.1).bind fun t34=>some t34)else(some false)).bind fun t35=>some (t35&&((strOfNums (([]:List Int)++Zx)).toList==(strOfNums Zx).toList)))else none)
theorem Ww.ok(Zx:List Int)(Yf:Value)   (r:Bool)(H:Ww.f Zx=some r)(w:World)(hV:Hp)(sV:Sub hV (hp w))(h0:Xb kb hV Yf Zx)(h1:(Xi ZY 0 XM).p hV)(h2:(Xi ki 1 Z3E).p hV) :
    XL Tryz.prog 7 [Yf].toArray em hV w (fun v=>HO.pure (v=.bool r)):=by
 refine XL.go 48 Tryz.func7 sV (aS h0 (All.cons (x:=Xi ZY 0 XM) h1 (All.cons (x:=Xi ki 1 Z3E) h2 (All.nil _)))) fun see=>?_;have ho:=H;refine gg ?_;refine ci ho (fun ho=>?_) fun ho=>?_
 ·exact sI ho▸rt
 refine SP.ZbW (k:=kb) Tryz.underlying31 Z5M.h rfl rfl (fun v2=>gg ?_);refine ap 0 0 ho fun v4 ho=>?_;refine fz 0 ?_;obtain⟨t6,hc,ho⟩:=bind_some ho;refine SP.Ti see (caps:=[]) _ Zu9.h rfl rfl rfl rfl (fun w2 hP hs sub ap=>Z0A.ok _ hc w2 hP sub (aS (ap.get 0 rfl) (All.cons (ap.get 2 rfl) (All.cons (ap.get 3 rfl) (All.nil _))))) (fun vr=>?_);refine ex fun v7=>?_;refine ex fun v8=>?_;refine ex fun v9=>?_;refine ex fun v10=>?_;refine SP.have (fun w2 h=>(St.Yr h).1.symm) (fun er=>?_);subst er;refine SP.imp (fun w2 h=>St.Yk (St.Yr h).2) ?_;clear hc;refine gg ?_;refine al (h:=fun _=>id) fun b15=>?_;refine sh (h:=id) 1 fun Z8Y=>?_;refine sh (h:=id) 2 fun ZAL=>?_;refine SP.have (fun w2 hw=>Vf.shape (St.own 3 rfl see.sub see.dj hw)) (fun ZAM=>?_);refine st 0 ?_;obtain⟨t17,hc,ho⟩:=bind_some ho;refine SP.Ti see (caps:=[]) _ Zub.h rfl rfl rfl rfl (fun w2 hP hs sub ap=>TJ.ok _ hc w2 hP sub (aS (ap.get 1 rfl) (All.nil _))) (fun vr=>?_);refine ex fun v18=>?_;refine ex fun v19=>?_;refine ex fun v20=>?_;refine ex fun v21=>?_;refine SP.have (fun w2 h=>(St.Yr h).1.symm) (fun er=>?_);subst er;refine SP.imp (fun w2 h=>St.Yk (St.Yr h).2) ?_;clear hc;refine gg ?_;refine al (h:=fun _=>id) fun KM=>?_;refine sh (h:=id) 1 fun Zh0=>?_;refine sh (h:=id) 2 fun ZcU=>?_;refine SP.have (fun w2 hw=>Vf.shape (St.own 3 rfl see.sub see.dj hw)) (fun Zyb=>?_);refine st 0 ?_;obtain⟨t31,Zhe,ho⟩:=bind_some ho;refine SP.jn 4 [0,3,5,8] 35 (.bool t31) ?_ ?_;rotate_left
 ·refine bi 31 Zhe (fun Zwz ho=>?_) fun Zwz ho=>?_
  ·obtain⟨t30,hc,ho⟩:=bind_some ho;refine SP.Z0m see (caps:=[]) (.bool t30) Zuc.h rfl rfl rfl rfl (fun w2 hs=>YX.ok _ hc w2 (hp w2) (Sub.refl _) (aS (Zg.read (St.own 6 rfl see.sub see.dj hs) (Sub.refl _) (Sub.refl _)) (aS (Zg.read (St.own 7 rfl see.sub see.dj hs) (Sub.refl _) (Sub.refl _)) (aS (Vf.read (St.own 8 rfl see.sub see.dj hs) (Sub.refl _) (Sub.refl _)) (aS (Zg.read (St.own 1 rfl see.sub see.dj hs) (Sub.refl _) (Sub.refl _)) (aS (Zg.read (St.own 2 rfl see.sub see.dj hs) (Sub.refl _) (Sub.refl _)) (aS (Vf.read (St.own 3 rfl see.sub see.dj hs) (Sub.refl _) (Sub.refl _)) (All.nil _)))))))) ?_;clear hc;refine gg ?_;obtain rfl:=sI ho;exact jn
  obtain rfl:=sI ho;exact jn
 clear Zhe;refine gg ?_;obtain⟨t35,Zhf,ho⟩:=bind_some ho;refine SP.jn 4 [0,3] 40 (.bool t35) ?_ ?_
 ·clear Zhf;refine gg ?_;refine SP.jn 6 [] 47 (.bool (t35&&((strOfNums (([]:List Int)++Zx)).toList==(strOfNums Zx).toList))) ?_ ?_
  ·refine gg ?_;exact sI ho▸rt
  refine bb 41 (fun Z4p=>?_) fun Z4p=>?_
  ·refine SP.val (Val.Zgc see 0 rfl Tryz.underlying31 Tryz.underlying5 Tryz.underlying9 rfl) rfl rfl rfl (gg ?_);refine SP.val (Val.Zgc see 1 rfl Tryz.underlying31 Tryz.underlying5 Tryz.underlying9 rfl) rfl rfl rfl ?_;refine SP.val (Val.ZlD rfl rfl) rfl rfl rfl (gg ?_);exact jb (WH Z4p rfl)
  exact jb (WI Z4p)
 refine bc 36 Zhf (fun ZwA ho=>?_) fun ZwA ho=>?_
 ·obtain⟨t34,hc,ho⟩:=bind_some ho;refine SP.Z0m see (caps:=[]) (.bool t34) Zud.h rfl rfl rfl rfl (fun w2 hs=>Wn.ok _ hc w2 (hp w2) (Sub.refl _) (aS (Zg.read (St.own 9 rfl see.sub see.dj hs) (Sub.refl _) (Sub.refl _)) (aS (Zg.read (St.own 4 rfl see.sub see.dj hs) (Sub.refl _) (Sub.refl _)) (All.nil _)))) ?_;clear hc;refine gg ?_;obtain rfl:=sI ho;exact jn
 obtain rfl:=sI ho;exact jn
theorem cl5:Tryz.prog.cellsOf 5=1:=by kernel_rfl
def Ww.Pure:Prop:=∀(x0:(List Int)),(x0.length≤maxLen∧∀y∈x0,(Lit.int .u8 y).wf=true)→Ww.f x0=some true
end Go.Proofs.YtehjiiebjkkcmaaGreatDoor
end
