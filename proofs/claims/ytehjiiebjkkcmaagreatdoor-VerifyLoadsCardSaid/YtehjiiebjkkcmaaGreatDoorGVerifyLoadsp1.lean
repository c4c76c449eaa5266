/- Functions of the program as plain functions, with the proof that the code computes them: printed by gen.py of this session. -/
import Derived.Test.YtehjiiebjkkcmaaGreatDoorProg
import Derived.Test.YtehjiiebjkkcmaaGreatDoorW2xVerifyLoads
import Derived.Ground.GgzProg
import Derived.Ground.Names8Prog
import Derived.Ground.NamesProg
import Derived.Ground.SlgcProg
import Derived.Ground.SlgmProg
import Derived.Ground.SlgnProg
import Derived.Ground.SlsfProg
import Derived.Shelf.Bits.Mul64
import Derived.Shelf.Lay
import Derived.Shelf.SlGeneric
import Derived.Shelf.SlIterI.Nil
import Derived.Shelf.SlSortCmp.WholeK
import Derived.Shelf.SlicesE.Reverse
import Derived.Shelf.SlicesG.Cmp
import Derived.Shelf.SlicesG.CompactI
import Derived.Shelf.Small.Bits
import Derived.Shelf.SortM.Plain
import Derived.Shelf.SortM.SortNone
import Derived.Shelf.Spec.SlicesGrow
set_option linter.unusedVariables false
set_option linter.unusedSimpArgs false
set_option maxRecDepth 20000
set_option maxHeartbeats 2000000
set_option linter.defProp false
set_option warn.classDefReducibility false
noncomputable section
namespace Go.Proofs.YtehjiiebjkkcmaaGreatDoor
open Go.Q
structure Zp where
  Kind:Int
  A:Int
  B:Int
def Zp.zero:Zp:=⟨0,0,0⟩
def Z4:Kd Zp:=⟨3,fun h cs x=>cs=[.int .u8 x.Kind,.int .i64 x.A,.int .i64 x.B],fun _ _ _ _ _ h=>h,fun _ _ _ h=>by simp[h],fun _ _ _ h=>by subst h;rfl⟩
theorem Z4.Z3q:Part Z4 0 (Uz .u8) (fun x=>x.Kind):=fun h cs x e=>⟨[.int .u8 x.Kind],rfl,by subst e;exact KO [.int .u8 x.Kind,.int .i64 x.A,.int .i64 x.B] 0 1⟩
instance:Rd Z4 (fun x0=>[.int .u8 x0.Kind,.int .i64 x0.A,.int .i64 x0.B]):=⟨fun _ _ _ h=>h⟩
structure Z7 where
  Op:Int
  A:Int
  B:Int
def Z7.zero:Z7:=⟨0,0,0⟩
def Z8:Kd Z7:=⟨3,fun h cs x=>cs=[.int .u8 x.Op,.int .i64 x.A,.int .i64 x.B],fun _ _ _ _ _ h=>h,fun _ _ _ h=>by simp[h],fun _ _ _ h=>by subst h;rfl⟩
theorem Z8.KP:Part Z8 0 (Uz .u8) (fun x=>x.Op):=fun h cs x e=>⟨[.int .u8 x.Op],rfl,by subst e;exact KO [.int .u8 x.Op,.int .i64 x.A,.int .i64 x.B] 0 1⟩
theorem Z8.Je:Part Z8 1 (Uz .i64) (fun x=>x.A):=fun h cs x e=>⟨[.int .i64 x.A],rfl,by subst e;exact KO [.int .u8 x.Op,.int .i64 x.A,.int .i64 x.B] 1 1⟩
instance:Rd Z8 (fun x0=>[.int .u8 x0.Op,.int .i64 x0.A,.int .i64 x0.B]):=⟨fun _ _ _ h=>h⟩
structure Zb where
  Args:(List Int)
  Zk:(List Int)
  Result:Int
  Reads:Bool
  Fuel:Int
  Stack:Int
  Heap:Int
  Code:(List Z7)
def Zb.zero:Zb:=⟨[],[],0,false,0,0,0,[]⟩
def Zd:Kd Zb:=⟨8,fun h cs x=>∃v0 v1 v2:Value,cs=[v0,v1,.int .u8 x.Result,.bool x.Reads,.int .i64 x.Fuel,.int .i64 x.Stack,.int .i64 x.Heap,v2]∧Xb (Uz .u8) h v0 x.Args∧Xb (Uz .u8) h v1 x.Zk∧Xb Z8 h v2 x.Code,
  fun _ _ _ _ s ⟨v0,v1,v2,e,p0,p1,p2⟩=>⟨v0,v1,v2,e,Xb.mono s p0,Xb.mono s p1,Xb.mono s p2⟩,fun _ _ _ ⟨v0,v1,v2,e,p0,p1,p2⟩=>by simp[e],
  fun _ _ _ ⟨v0,v1,v2,e,p0,p1,p2⟩=>by subst e;obtain⟨_,_,rfl,-⟩:=p0;obtain⟨_,_,rfl,-⟩:=p1;obtain⟨_,_,rfl,-⟩:=p2;rfl⟩
def YI:Ko Zb:=⟨Zd,fun cs x=>HO.ex fun v0:Value=>HO.ex fun v1:Value=>HO.ex fun v2:Value=>HO.Yr (cs=[v0,v1,.int .u8 x.Result,.bool x.Reads,.int .i64 x.Fuel,.int .i64 x.Stack,.int .i64 x.Heap,v2]) (HO.Yk [Zg (Uz .u8) 5 v0 x.Args,Zg (Uz .u8) 5 v1 x.Zk,Zg Z8 43 v2 x.Code]),fun⟨v0,v1,v2,e,q⟩ sa sh=>⟨v0,v1,v2,e,Zg.read (Sep.get 0 rfl q) sa sh,Zg.read (Sep.get 1 rfl q) sa sh,Zg.read (Sep.get 2 rfl q) sa sh⟩⟩
theorem Zd.Z6w:Part Zd 0 (TK (Uz .u8)) (fun x=>x.Args):=fun h cs x ⟨v0,v1,v2,e,p0,p1,p2⟩=>⟨[v0],⟨v0,rfl,p0⟩,by subst e;exact KO [v0,v1,.int .u8 x.Result,.bool x.Reads,.int .i64 x.Fuel,.int .i64 x.Stack,.int .i64 x.Heap,v2] 0 1⟩
theorem Zd.Z7R:Part Zd 2 (Uz .u8) (fun x=>x.Result):=fun h cs x ⟨v0,v1,v2,e,p0,p1,p2⟩=>⟨[.int .u8 x.Result],rfl,by subst e;exact KO [v0,v1,.int .u8 x.Result,.bool x.Reads,.int .i64 x.Fuel,.int .i64 x.Stack,.int .i64 x.Heap,v2] 2 1⟩
theorem Zd.Z5I:Part Zd 3 Zbp (fun x=>x.Reads):=fun h cs x ⟨v0,v1,v2,e,p0,p1,p2⟩=>⟨[.bool x.Reads],rfl,by subst e;exact KO [v0,v1,.int .u8 x.Result,.bool x.Reads,.int .i64 x.Fuel,.int .i64 x.Stack,.int .i64 x.Heap,v2] 3 1⟩
theorem Zd.Z27:Part Zd 7 (TK Z8) (fun x=>x.Code):=fun h cs x ⟨v0,v1,v2,e,p0,p1,p2⟩=>⟨[v2],⟨v2,rfl,p2⟩,by subst e;exact KO [v0,v1,.int .u8 x.Result,.bool x.Reads,.int .i64 x.Fuel,.int .i64 x.Stack,.int .i64 x.Heap,v2] 7 1⟩
theorem Zd.load{P:Program}{n:Fr}{ρ:Option Nat}{σ:List (Nat×Value)}{w0:World}{hA hV:Hp}{ps:List HP}{os:List HO}{L l:List Oper}{Q:Cont}{d:Nat}{t tr:TypeId}{x:Operand}{pos:String}{af:Array Edge}{g:Option (Nat×Bool)}{v:Value}(see:YG w0 hA hV)(i:Nat){x0:Zb}(hi:ps[i]?=some (U8 Zd v x0)){X5:TypeDesc}(hu:P.underlying t=some X5)(hd:(match X5 with | .struct _ | .array _ _=>true | _=>false)=true)(hs:(P.info? t).map (·.size)=some 8)(hg:gd L σ g=some true)(hn:Nat.blt d n.n=true)(hx:ev σ x=some v)
    (h:∀v0 v1 v2,SP P n ρ ((d,.agg [v0,v1,.int .u8 x0.Result,.bool x0.Reads,.int .i64 x0.Fuel,.int .i64 x0.Stack,.int .i64 x0.Heap,v2].toArray)::σ) (St w0 hA hV (Z9 (Uz .u8) v0 x0.Args::Z9 (Uz .u8) v1 x0.Zk::Z9 Z8 v2 x0.Code::ps) os) L l Q):SP P n ρ σ (St w0 hA hV ps os) L (⟨some d,.load t x,tr,pos,af,g⟩::l) Q:=
  SP.ZeJ see i hi hu hd hs hg hn hx fun cs a w ha hw=>by
    obtain⟨m,fr,hN,hO,n1,n2,dj,s1,s2,ap,s⟩:=hw;obtain⟨v0,v1,v2,e,p0,p1,p2⟩:=ap.get 0 rfl;subst e;exact h v0 v1 v2 a w ha ⟨m,fr,hN,hO,n1,n2,dj,s1,s2,All.cons p0 (All.cons p1 (All.cons p2 ((fun y hy=>ap y (List.mem_cons_of_mem _ hy))))),s⟩
structure Zc where
  ZA:(List Zp)
  Pool:(List Zp)
  Methods:(List Zb)
  Zo:Int
def Zc.zero:Zc:=⟨[],[],[],0⟩
structure ZM where
  Fuel:Int
  Stack:Int
  Heap:Int
def ZM.zero:ZM:=⟨0,0,0⟩
def YN:Kd ZM:=⟨3,fun h cs x=>cs=[.int .i64 x.Fuel,.int .i64 x.Stack,.int .i64 x.Heap],fun _ _ _ _ _ h=>h,fun _ _ _ h=>by simp[h],fun _ _ _ h=>by subst h;rfl⟩
instance:Rd YN (fun x0=>[.int .i64 x0.Fuel,.int .i64 x0.Stack,.int .i64 x0.Heap]):=⟨fun _ _ _ h=>h⟩
structure Z2q where
  e0:Int
  e1:Int
def Z2q.zero:Z2q:=⟨0,0⟩
def Zca:Kd Z2q:=⟨2,fun h cs x=>cs=[.int .i64 x.e0,.int .i64 x.e1],fun _ _ _ _ _ h=>h,fun _ _ _ h=>by simp[h],fun _ _ _ h=>by subst h;rfl⟩
instance:Rd Zca (fun x0=>[.int .i64 x0.e0,.int .i64 x0.e1]):=⟨fun _ _ _ h=>h⟩
structure Jy where
  e0:Int
  e1:Int
def Jy.zero:Jy:=⟨0,0⟩
def ZY:Kd Jy:=⟨2,fun h cs x=>cs=[.int .i64 x.e0,.int .i64 x.e1],fun _ _ _ _ _ h=>h,fun _ _ _ h=>by simp[h],fun _ _ _ h=>by subst h;rfl⟩
instance:Rd ZY (fun x0=>[.int .i64 x0.e0,.int .i64 x0.e1]):=⟨fun _ _ _ h=>h⟩
structure Zi where
  Reached:Bool
  Kinds:(List Int)
def Zi.zero:Zi:=⟨false,[]⟩
def ZP:Kd Zi:=⟨2,fun h cs x=>∃v0:Value,cs=[.bool x.Reached,v0]∧Xb (Uz .u8) h v0 x.Kinds,
  fun _ _ _ _ s ⟨v0,e,p0⟩=>⟨v0,e,Xb.mono s p0⟩,fun _ _ _ ⟨v0,e,p0⟩=>by simp[e],
  fun _ _ _ ⟨v0,e,p0⟩=>by subst e;obtain⟨_,_,rfl,-⟩:=p0;rfl⟩
theorem ZP.load{P:Program}{n:Fr}{ρ:Option Nat}{σ:List (Nat×Value)}{w0:World}{hA hV:Hp}{ps:List HP}{os:List HO}{L l:List Oper}{Q:Cont}{d:Nat}{t tr:TypeId}{x:Operand}{pos:String}{af:Array Edge}{g:Option (Nat×Bool)}{v:Value}(see:YG w0 hA hV)(i:Nat){x0:Zi}(hi:ps[i]?=some (U8 ZP v x0)){X5:TypeDesc}(hu:P.underlying t=some X5)(hd:(match X5 with | .struct _ | .array _ _=>true | _=>false)=true)(hs:(P.info? t).map (·.size)=some 2)(hg:gd L σ g=some true)(hn:Nat.blt d n.n=true)(hx:ev σ x=some v)
    (h:∀v0,SP P n ρ ((d,.agg [.bool x0.Reached,v0].toArray)::σ) (St w0 hA hV (Z9 (Uz .u8) v0 x0.Kinds::ps) os) L l Q):SP P n ρ σ (St w0 hA hV ps os) L (⟨some d,.load t x,tr,pos,af,g⟩::l) Q:=
  SP.ZeJ see i hi hu hd hs hg hn hx fun cs a w ha hw=>by
    obtain⟨m,fr,hN,hO,n1,n2,dj,s1,s2,ap,s⟩:=hw;obtain⟨v0,e,p0⟩:=ap.get 0 rfl;subst e;exact h v0 a w ha ⟨m,fr,hN,hO,n1,n2,dj,s1,s2,All.cons p0 ((fun y hy=>ap y (List.mem_cons_of_mem _ hy))),s⟩
structure YO where
  From:Int
  To:Int
  Turns:Int
def YO.zero:YO:=⟨0,0,0⟩
def Vt:Kd YO:=⟨3,fun h cs x=>cs=[.int .i64 x.From,.int .i64 x.To,.int .i64 x.Turns],fun _ _ _ _ _ h=>h,fun _ _ _ h=>by simp[h],fun _ _ _ h=>by subst h;rfl⟩
instance:Rd Vt (fun x0=>[.int .i64 x0.From,.int .i64 x0.To,.int .i64 x0.Turns]):=⟨fun _ _ _ h=>h⟩
structure WY where
  Takes:(List Int)
  Gives:(List Int)
def WY.zero:WY:=⟨[],[]⟩
structure ZI where
  Reached:Bool
  Kinds:(List Int)
def ZI.zero:ZI:=⟨false,[]⟩
def Yy:Kd ZI:=⟨2,fun h cs x=>∃v0:Value,cs=[.bool x.Reached,v0]∧Xb (Uz .u8) h v0 x.Kinds,
  fun _ _ _ _ s ⟨v0,e,p0⟩=>⟨v0,e,Xb.mono s p0⟩,fun _ _ _ ⟨v0,e,p0⟩=>by simp[e],
  fun _ _ _ ⟨v0,e,p0⟩=>by subst e;obtain⟨_,_,rfl,-⟩:=p0;rfl⟩
theorem Yy.Zcb:Part Yy 0 Zbp (fun x=>x.Reached):=fun h cs x ⟨v0,e,p0⟩=>⟨[.bool x.Reached],rfl,by subst e;exact KO [.bool x.Reached,v0] 0 1⟩
theorem Yy.Z5J:Part Yy 1 (TK (Uz .u8)) (fun x=>x.Kinds):=fun h cs x ⟨v0,e,p0⟩=>⟨[v0],⟨v0,rfl,p0⟩,by subst e;exact KO [.bool x.Reached,v0] 1 1⟩
structure ZE where
  From:Int
  To:Int
  Turns:Int
def ZE.zero:ZE:=⟨0,0,0⟩
def Y3:Kd ZE:=⟨3,fun h cs x=>cs=[.int .i64 x.From,.int .i64 x.To,.int .i64 x.Turns],fun _ _ _ _ _ h=>h,fun _ _ _ h=>by simp[h],fun _ _ _ h=>by subst h;rfl⟩
theorem Y3.ZeY:Part Y3 2 (Uz .i64) (fun x=>x.Turns):=fun h cs x e=>⟨[.int .i64 x.Turns],rfl,by subst e;exact KO [.int .i64 x.From,.int .i64 x.To,.int .i64 x.Turns] 2 1⟩
instance:Rd Y3 (fun x0=>[.int .i64 x0.From,.int .i64 x0.To,.int .i64 x0.Turns]):=⟨fun _ _ _ h=>h⟩
instance sz1:UE Tryz.prog 1 1:=⟨by kernel_rfl⟩
instance sz2:UE Tryz.prog 2 1:=⟨by kernel_rfl⟩
instance V4:UE Tryz.prog 3 1:=⟨by kernel_rfl⟩
instance sz4:UE Tryz.prog 4 1:=⟨by kernel_rfl⟩
instance Tj:UE Tryz.prog 5 1:=⟨by kernel_rfl⟩
instance Zm2:UE Tryz.prog 22 1:=⟨by kernel_rfl⟩
instance Ziz:UE Tryz.prog 23 1:=⟨by kernel_rfl⟩
instance Z8d:UE Tryz.prog 25 4:=⟨by kernel_rfl⟩
instance Zm3:UE Tryz.prog 28 1:=⟨by kernel_rfl⟩
instance ZtQ:UE Tryz.prog 29 1:=⟨by kernel_rfl⟩
instance Jq:UE Tryz.prog 31 1:=⟨by kernel_rfl⟩
instance Zcc:UE Tryz.prog 32 1:=⟨by kernel_rfl⟩
instance Z3D:UE Tryz.prog 34 8:=⟨by kernel_rfl⟩
instance ZAR:UE Tryz.prog 43 3:=⟨by kernel_rfl⟩
instance Z5K:UE Tryz.prog 45 3:=⟨by kernel_rfl⟩
instance ZiA:UE Tryz.prog 48 1:=⟨by kernel_rfl⟩
instance ZtR:UE Tryz.prog 67 1:=⟨by kernel_rfl⟩
instance Zyz:UE Tryz.prog 100 3:=⟨by kernel_rfl⟩
instance Zp8:UE Tryz.prog 107 4:=⟨by kernel_rfl⟩
instance Zbr:UE Tryz.prog 111 3:=⟨by kernel_rfl⟩
instance ZyA:UE Tryz.prog 116 1:=⟨by kernel_rfl⟩
instance Z3g:UE Tryz.prog 119 2:=⟨by kernel_rfl⟩
instance Zp9:UE Tryz.prog 120 400:=⟨by kernel_rfl⟩
instance Z7s:UE Tryz.prog 132 1:=⟨by kernel_rfl⟩
instance ZyB:UE Tryz.prog 133 6:=⟨by kernel_rfl⟩
instance Zpa:UE Tryz.prog 138 3:=⟨by kernel_rfl⟩
instance Z5L:UE Tryz.prog 155 2:=⟨by kernel_rfl⟩
instance ZyC:UE Tryz.prog 164 1:=⟨by kernel_rfl⟩
instance ZyD:UE Tryz.prog 165 1:=⟨by kernel_rfl⟩
instance Zpb:UE Tryz.prog 218 3:=⟨by kernel_rfl⟩
instance ZeZ:UE Tryz.prog 240 2:=⟨by kernel_rfl⟩
instance Zpc:UE Tryz.prog 245 2:=⟨by kernel_rfl⟩
instance ZjO:UE Tryz.prog 255 2:=⟨by kernel_rfl⟩
instance ZyE:UE Tryz.prog 287 1:=⟨by kernel_rfl⟩
instance ZyF:UE Tryz.prog 314 2:=⟨by kernel_rfl⟩
instance ZiB:Inf Tryz.prog 3 [.int .i64 0] 1 8:=⟨by kernel_rfl⟩
instance Z5M:Inf Tryz.prog 5 [.int .u8 0] 1 1:=⟨by kernel_rfl⟩
instance ZyG:Inf Tryz.prog 25 [(.slice none 0 0),(.slice none 0 0),(.slice none 0 0),.int .i64 0] 4 80:=⟨by kernel_rfl⟩
instance ZyH:Inf Tryz.prog 28 [.int .i64 0] 1 8:=⟨by kernel_rfl⟩
instance Zbs:Inf Tryz.prog 31 [(.slice none 0 0)] 1 24:=⟨by kernel_rfl⟩
instance ZyI:Inf Tryz.prog 32 [(.slice none 0 0)] 1 24:=⟨by kernel_rfl⟩
instance Zbt:Inf Tryz.prog 34 [(.slice none 0 0),(.slice none 0 0),.int .u8 0,.bool false,.int .i64 0,.int .i64 0,.int .i64 0,(.slice none 0 0)] 8 104:=⟨by kernel_rfl⟩
instance ZyJ:Inf Tryz.prog 43 [.int .u8 0,.int .i64 0,.int .i64 0] 3 24:=⟨by kernel_rfl⟩
instance ZjP:Inf Tryz.prog 45 [.int .i64 0,.int .i64 0,.int .i64 0] 3 24:=⟨by kernel_rfl⟩
instance ZjQ:Inf Tryz.prog 48 [(.slice none 0 0)] 1 24:=⟨by kernel_rfl⟩
instance Zx7:Inf Tryz.prog 100 [.int .u8 0,.int .i64 0,.int .i64 0] 3 24:=⟨by kernel_rfl⟩
instance Zx8:Inf Tryz.prog 109 [.int .i64 0,.int .i64 0,.int .i64 0,.int .i64 0,.int .i64 0] 5 40:=⟨by kernel_rfl⟩
instance Zx9:Inf Tryz.prog 111 [.int .i64 0,.int .i64 0,.int .i64 0] 3 24:=⟨by kernel_rfl⟩
instance Zxa:Inf Tryz.prog 116 [.pointer none] 1 8:=⟨by kernel_rfl⟩
instance Zm4:Inf Tryz.prog 119 [.bool false,(.slice none 0 0)] 2 32:=⟨by kernel_rfl⟩
instance Zxb:Inf Tryz.prog 132 [.nilFunc] 1 8:=⟨by kernel_rfl⟩
instance Zxc:Inf Tryz.prog 133 [.nilFunc,.nilFunc,.nilFunc,.nilFunc,.nilFunc,.nilFunc] 6 48:=⟨by kernel_rfl⟩
instance Zm5:Inf Tryz.prog 155 [.bool false,(.slice none 0 0)] 2 32:=⟨by kernel_rfl⟩
instance Zxd:Inf Tryz.prog 164 [.nilFunc] 1 8:=⟨by kernel_rfl⟩
instance Zxe:Inf Tryz.prog 165 [.nilFunc] 1 8:=⟨by kernel_rfl⟩
instance Zxf:Inf Tryz.prog 218 [.int .i64 0,.int .i64 0,.int .i64 0] 3 24:=⟨by kernel_rfl⟩
instance Zxg:Inf Tryz.prog 240 [.int .i64 0,.int .i64 0] 2 16:=⟨by kernel_rfl⟩
instance Zxh:Inf Tryz.prog 245 [.int .i64 0,.int .i64 0] 2 16:=⟨by kernel_rfl⟩
instance Zxi:Inf Tryz.prog 255 [(.slice none 0 0),(.slice none 0 0)] 2 48:=⟨by kernel_rfl⟩
instance Zxj:Inf Tryz.prog 284 [(.slice none 0 0)] 1 24:=⟨by kernel_rfl⟩
instance Zxk:Inf Tryz.prog 287 [.int .i64 0] 1 8:=⟨by kernel_rfl⟩
def Z07:List Value:=(List.replicate 200 [.bool false,(.slice none 0 0)]).flatten
instance ZtS:Shp Tryz.prog 25 [(.slice none 0 0),(.slice none 0 0),(.slice none 0 0),.int .i64 0] [(0,1),(1,1),(2,1),(3,1)]:=⟨by kernel_rfl⟩
instance ZtT:Shp Tryz.prog 34 [(.slice none 0 0),(.slice none 0 0),.int .u8 0,.bool false,.int .i64 0,.int .i64 0,.int .i64 0,(.slice none 0 0)] [(0,1),(1,1),(2,1),(3,1),(4,1),(5,1),(6,1),(7,1)]:=⟨by kernel_rfl⟩
instance ZAS:Shp Tryz.prog 43 [.int .u8 0,.int .i64 0,.int .i64 0] [(0,1),(1,1),(2,1)]:=⟨by kernel_rfl⟩
instance ZAT:Shp Tryz.prog 45 [.int .i64 0,.int .i64 0,.int .i64 0] [(0,1),(1,1),(2,1)]:=⟨by kernel_rfl⟩
instance ZyK:Shp Tryz.prog 100 [.int .u8 0,.int .i64 0,.int .i64 0] [(0,1),(1,1),(2,1)]:=⟨by kernel_rfl⟩
instance Zpd:Shp Tryz.prog 111 [.int .i64 0,.int .i64 0,.int .i64 0] [(0,1),(1,1),(2,1)]:=⟨by kernel_rfl⟩
instance ZyL:Shp Tryz.prog 119 [.bool false,(.slice none 0 0)] [(0,1),(1,1)]:=⟨by kernel_rfl⟩
instance ZyM:Shp Tryz.prog 122 ([(.slice none 0 0),(.slice none 0 0),(.slice none 0 0),.int .i64 0,(.slice none 0 0),(.slice none 0 0),.int .u8 0,.bool false,.int .i64 0,.int .i64 0,.int .i64 0,(.slice none 0 0),(.slice none 0 0)]++Z07) [(0,4),(4,8),(12,1),(13,400)]:=⟨by kernel_rfl⟩
instance ZyN:Shp Tryz.prog 132 [.nilFunc] [(0,1)]:=⟨by kernel_rfl⟩
instance ZyO:Shp Tryz.prog 133 [.nilFunc,.nilFunc,.nilFunc,.nilFunc,.nilFunc,.nilFunc] [(0,1),(1,1),(2,1),(3,1),(4,1),(5,1)]:=⟨by kernel_rfl⟩
instance ZyP:Shp Tryz.prog 140 [.int .i64 0,.int .i64 0,.int .i64 0,(.slice none 0 0),(.slice none 0 0),.int .u8 0,.bool false,.int .i64 0,.int .i64 0,.int .i64 0,(.slice none 0 0),(.slice none 0 0)] [(0,3),(3,8),(11,1)]:=⟨by kernel_rfl⟩
instance ZyQ:Shp Tryz.prog 170 [.nilFunc,.nilFunc,.nilFunc,.nilFunc,.nilFunc] [(0,1),(1,1),(2,1),(3,1),(4,1)]:=⟨by kernel_rfl⟩
instance ZyR:Shp Tryz.prog 218 [.int .i64 0,.int .i64 0,.int .i64 0] [(0,1),(1,1),(2,1)]:=⟨by kernel_rfl⟩
instance ZyS:Shp Tryz.prog 240 [.int .i64 0,.int .i64 0] [(0,1),(1,1)]:=⟨by kernel_rfl⟩
instance ZyT:Shp Tryz.prog 241 [.int .i64 0,.int .i64 0,.int .i64 0,.int .i64 0,.int .i64 0,.int .i64 0] [(0,2),(2,2),(4,2)]:=⟨by kernel_rfl⟩
instance ZyU:Shp Tryz.prog 255 [(.slice none 0 0),(.slice none 0 0)] [(0,1),(1,1)]:=⟨by kernel_rfl⟩
instance ZyV:Shp Tryz.prog 279 [(.slice none 0 0),.int .i64 0,.int .i64 0] [(0,1),(1,1),(2,1)]:=⟨by kernel_rfl⟩
instance ZyW:Shp Tryz.prog 287 [.int .i64 0] [(0,1)]:=⟨by kernel_rfl⟩
instance ZyX:Shp Tryz.prog 291 [(.slice none 0 0),.int .i64 0] [(0,1),(1,1)]:=⟨by kernel_rfl⟩
instance ZyY:Shp Tryz.prog 297 [.int .i64 0,.int .i64 0] [(0,1),(1,1)]:=⟨by kernel_rfl⟩
instance ZyZ:Shp Tryz.prog 314 [.int .i64 0,.int .i64 0] [(0,1),(1,1)]:=⟨by kernel_rfl⟩
theorem Z8S(d:Nat)(w:World)(x0 y0:Int)(x1 y1:Int)(x2 y2:Int):(Op.equalIn (d+2) 100 (.agg #[.int .u8 x0,.int .i64 x1,.int .i64 x2]) (.agg #[.int .u8 y0,.int .i64 y1,.int .i64 y2])).run Tryz.prog w=.ok (x0==y0&&(x1==y1&&(x2==y2))) w:=by
  refine ZbS Tryz.underlying100 (by kernel_rfl) ?_;refine Z2U (by rfl) (Vw Tryz.underlying5 rfl rfl) (Vw Tryz.underlying5 rfl rfl) (run_equalIn_int w _ 5 _ _ _ _ Tryz.underlying5) ?_;refine Z2U (by rfl) (Vw Tryz.underlying2 rfl rfl) (Vw Tryz.underlying2 rfl rfl) (run_equalIn_int w _ 2 _ _ _ _ Tryz.underlying2) ?_;exact Z88 (by rfl) (Vw Tryz.underlying2 rfl rfl) (Vw Tryz.underlying2 rfl rfl) (run_equalIn_int w _ 2 _ _ _ _ Tryz.underlying2)
theorem Zpe(d:Nat)(w:World)(x0 y0:Int)(x1 y1:Int)(x2 y2:Int):(Op.equalIn (d+2) 43 (.agg #[.int .u8 x0,.int .i64 x1,.int .i64 x2]) (.agg #[.int .u8 y0,.int .i64 y1,.int .i64 y2])).run Tryz.prog w=.ok (x0==y0&&(x1==y1&&(x2==y2))) w:=by
  refine ZbS Tryz.underlying43 (by kernel_rfl) ?_;refine Z2U (by rfl) (Vw Tryz.underlying5 rfl rfl) (Vw Tryz.underlying5 rfl rfl) (run_equalIn_int w _ 5 _ _ _ _ Tryz.underlying5) ?_;refine Z2U (by rfl) (Vw Tryz.underlying3 rfl rfl) (Vw Tryz.underlying3 rfl rfl) (run_equalIn_int w _ 3 _ _ _ _ Tryz.underlying3) ?_;exact Z88 (by rfl) (Vw Tryz.underlying3 rfl rfl) (Vw Tryz.underlying3 rfl rfl) (run_equalIn_int w _ 3 _ _ _ _ Tryz.underlying3)
theorem Zpf(d:Nat)(w:World)(x0 y0:Int)(x1 y1:Int)(x2 y2:Int):(Op.equalIn (d+2) 45 (.agg #[.int .i64 x0,.int .i64 x1,.int .i64 x2]) (.agg #[.int .i64 y0,.int .i64 y1,.int .i64 y2])).run Tryz.prog w=.ok (x0==y0&&(x1==y1&&(x2==y2))) w:=by
  refine ZbS Tryz.underlying45 (by kernel_rfl) ?_;refine Z2U (by rfl) (Vw Tryz.underlying3 rfl rfl) (Vw Tryz.underlying3 rfl rfl) (run_equalIn_int w _ 3 _ _ _ _ Tryz.underlying3) ?_;refine Z2U (by rfl) (Vw Tryz.underlying3 rfl rfl) (Vw Tryz.underlying3 rfl rfl) (run_equalIn_int w _ 3 _ _ _ _ Tryz.underlying3) ?_;exact Z88 (by rfl) (Vw Tryz.underlying3 rfl rfl) (Vw Tryz.underlying3 rfl rfl) (run_equalIn_int w _ 3 _ _ _ _ Tryz.underlying3)
instance ZjR:ZT Tryz.prog 173 :=.f Tryz.func173
instance Zz0:ZT Tryz.prog 174 :=.f Tryz.func174
instance Z3h:ZT Tryz.prog 111 :=.f Tryz.func111
instance Zz1:ZT Tryz.prog 249 :=.f Tryz.func249
instance Zz2:ZT Tryz.prog 219 :=.f Tryz.func219
instance Zpg:ZT Tryz.prog 220 :=.f Tryz.func220
instance Zz3:ZT Tryz.prog 250 :=.f Tryz.func250
instance Zz4:ZT Tryz.prog 221 :=.f Tryz.func221
instance Zz5:ZT Tryz.prog 175 :=.f Tryz.func175
instance Zz6:ZT Tryz.prog 114 :=.f Tryz.func114
instance Z4U:ZT Tryz.prog 223 :=.f Tryz.func223
instance Zbu:ZT Tryz.prog 222 :=.f Tryz.func222
instance Zz7:ZT Tryz.prog 176 :=.f Tryz.func176
instance Zz8:ZT Tryz.prog 188 :=.f Tryz.func188
instance Zz9:ZT Tryz.prog 189 :=.f Tryz.func189
instance Zza:ZT Tryz.prog 129 :=.f Tryz.func129
instance Zzb:ZT Tryz.prog 186 :=.f Tryz.func186
instance ZAU:ZT Tryz.prog 68 :=.f Tryz.func68
instance Zph:ZT Tryz.prog 177 :=.f Tryz.func177
instance Zzc:ZT Tryz.prog 118 :=.f Tryz.func118
instance ZAV:ZT Tryz.prog 59 :=.f Tryz.func59
instance ZtU:ZT Tryz.prog 88 :=.f Tryz.func88
instance Zzd:ZT Tryz.prog 231 :=.f Tryz.func231
instance Zze:ZT Tryz.prog 230 :=.f Tryz.func230
instance Zzf:ZT Tryz.prog 251 :=.f Tryz.func251
instance Zzg:ZT Tryz.prog 229 :=.f Tryz.func229
instance Zzh:ZT Tryz.prog 182 :=.f Tryz.func182
instance Zzi:ZT Tryz.prog 234 :=.f Tryz.func234
instance Zzj:ZT Tryz.prog 232 :=.f Tryz.func232
instance Zzk:ZT Tryz.prog 233 :=.f Tryz.func233
instance Zzl:ZT Tryz.prog 184 :=.f Tryz.func184
instance Zzm:ZT Tryz.prog 183 :=.f Tryz.func183
instance Zzn:ZT Tryz.prog 124 :=.f Tryz.func124
instance Zpi:ZT Tryz.prog 135 :=.f Tryz.func135
instance Zf0:ZT Tryz.prog 76 :=.f Tryz.func76
instance ZAW:ZT Tryz.prog 62 :=.f Tryz.func62
instance Zzo:ZT Tryz.prog 187 :=.f Tryz.func187
instance Zzp:ZT Tryz.prog 127 :=.f Tryz.func127
instance ZAX:ZT Tryz.prog 63 :=.f Tryz.func63
instance ZAY:ZT Tryz.prog 64 :=.f Tryz.func64
instance ZAZ:ZT Tryz.prog 32 :=.f Tryz.func32
instance Zzq:ZT Tryz.prog 125 :=.f Tryz.func125
instance Zzr:ZT Tryz.prog 235 :=.f Tryz.func235
instance Zzs:ZT Tryz.prog 128 :=.f Tryz.func128
instance ZtV:ZT Tryz.prog 66 :=.f Tryz.func66
instance Zzt:ZT Tryz.prog 185 :=.f Tryz.func185
instance Zzu:ZT Tryz.prog 126 :=.f Tryz.func126
instance ZB0:ZT Tryz.prog 61 :=.f Tryz.func61
instance ZB1:ZT Tryz.prog 31 :=.f Tryz.func31
instance ZB2:ZT Tryz.prog 10 :=.f Tryz.func10
instance ZB3:ZT Tryz.prog 65 :=.f Tryz.func65
instance ZB4:ZT Tryz.prog 33 :=.f Tryz.func33
instance ZB5:ZT Tryz.prog 11 :=.f Tryz.func11
instance Zzv:ZT Tryz.prog 142 :=.f Tryz.func142
instance ZB6:ZT Tryz.prog 67 :=.f Tryz.func67
instance ZtW:ZT Tryz.prog 69 :=.f Tryz.func69
instance ZtX:ZT Tryz.prog 70 :=.f Tryz.func70
instance ZB7:ZT Tryz.prog 71 :=.f Tryz.func71
instance Zzw:ZT Tryz.prog 131 :=.f Tryz.func131
instance Zzx:ZT Tryz.prog 130 :=.f Tryz.func130
instance Zzy:ZT Tryz.prog 190 :=.f Tryz.func190
instance Zzz:ZT Tryz.prog 132 :=.f Tryz.func132
instance ZtY:ZT Tryz.prog 72 :=.f Tryz.func72
instance ZtZ:ZT Tryz.prog 73 :=.f Tryz.func73
instance ZB8:ZT Tryz.prog 34 :=.f Tryz.func34
instance ZB9:ZT Tryz.prog 12 :=.f Tryz.func12
instance ZBa:ZT Tryz.prog 78 :=.f Tryz.func78
instance ZBb:ZT Tryz.prog 77 :=.f Tryz.func77
instance Z08:ZT Tryz.prog 253 :=.f Tryz.func253
instance Z5N:ZT Tryz.prog 254 :=.f Tryz.func254
instance ZzA:ZT Tryz.prog 239 :=.f Tryz.func239
instance ZBc:ZT Tryz.prog 81 :=.f Tryz.func81
instance ZjS:ZT Tryz.prog 240 :=.f Tryz.func240
instance Zpj:ZT Tryz.prog 241 :=.f Tryz.func241
instance ZjT:ZT Tryz.prog 203 :=.f Tryz.func203
instance ZzB:ZT Tryz.prog 242 :=.f Tryz.func242
instance Zpk:ZT Tryz.prog 199 :=.f Tryz.func199
instance Zpl:ZT Tryz.prog 136 :=.f Tryz.func136
instance ZzC:ZT Tryz.prog 200 :=.f Tryz.func200
instance ZzD:ZT Tryz.prog 201 :=.f Tryz.func201
instance Zm6:ZT Tryz.prog 48 :=.f Tryz.func48
instance Zm7:ZT Tryz.prog 49 :=.f Tryz.func49
instance ZzE:ZT Tryz.prog 137 :=.f Tryz.func137
instance ZzF:ZT Tryz.prog 138 :=.f Tryz.func138
instance Zu0:ZT Tryz.prog 79 :=.f Tryz.func79
instance ZBd:ZT Tryz.prog 80 :=.f Tryz.func80
instance ZBe:ZT Tryz.prog 35 :=.f Tryz.func35
instance ZBf:ZT Tryz.prog 13 :=.f Tryz.func13
instance ZBg:ZT Tryz.prog 42 :=.f Tryz.func42
instance ZzG:ZT Tryz.prog 143 :=.f Tryz.func143
instance Zu1:ZT Tryz.prog 47 :=.f Tryz.func47
instance Zu2:ZT Tryz.prog 95 :=.f Tryz.func95
instance Zm8:ZT Tryz.prog 23 :=.f Tryz.func23
instance ZBh:ZT Tryz.prog 82 :=.f Tryz.func82
instance Zu3:ZT Tryz.prog 84 :=.f Tryz.func84
instance Zu4:ZT Tryz.prog 83 :=.f Tryz.func83
instance ZzH:ZT Tryz.prog 141 :=.f Tryz.func141
instance ZBi:ZT Tryz.prog 85 :=.f Tryz.func85
instance ZBj:ZT Tryz.prog 36 :=.f Tryz.func36
instance ZBk:ZT Tryz.prog 14 :=.f Tryz.func14
instance Zpm:ZT Tryz.prog 144 :=.f Tryz.func144
instance ZBl:ZT Tryz.prog 89 :=.f Tryz.func89
instance Zu5:ZT Tryz.prog 91 :=.f Tryz.func91
instance Zm9:ZT Tryz.prog 90 :=.f Tryz.func90
instance Zma:ZT Tryz.prog 92 :=.f Tryz.func92
instance Zu6:ZT Tryz.prog 93 :=.f Tryz.func93
instance Zu7:ZT Tryz.prog 43 :=.f Tryz.func43
instance ZBm:ZT Tryz.prog 94 :=.f Tryz.func94
instance ZBn:ZT Tryz.prog 44 :=.f Tryz.func44
instance ZBo:ZT Tryz.prog 20 :=.f Tryz.func20
instance ZBp:ZT Tryz.prog 15 :=.f Tryz.func15
instance ZBq:ZT Tryz.prog 37 :=.f Tryz.func37
instance ZBr:ZT Tryz.prog 86 :=.f Tryz.func86
instance ZBs:ZT Tryz.prog 39 :=.f Tryz.func39
instance ZBt:ZT Tryz.prog 38 :=.f Tryz.func38
instance ZBu:ZT Tryz.prog 87 :=.f Tryz.func87
instance ZBv:ZT Tryz.prog 40 :=.f Tryz.func40
instance ZBw:ZT Tryz.prog 16 :=.f Tryz.func16
instance ZBx:ZT Tryz.prog 41 :=.f Tryz.func41
instance ZBy:ZT Tryz.prog 19 :=.f Tryz.func19
instance Zu8:ZT Tryz.prog 17 :=.f Tryz.func17
instance Zu9:ZT Tryz.prog 27 :=.f Tryz.func27
instance ZzI:ZT Tryz.prog 121 :=.f Tryz.func121
instance ZzJ:ZT Tryz.prog 228 :=.f Tryz.func228
instance ZzK:ZT Tryz.prog 178 :=.f Tryz.func178
instance ZzL:ZT Tryz.prog 120 :=.f Tryz.func120
instance Zpn:ZT Tryz.prog 159 :=.f Tryz.func159
instance ZzM:ZT Tryz.prog 179 :=.f Tryz.func179
instance ZzN:ZT Tryz.prog 122 :=.f Tryz.func122
instance ZzO:ZT Tryz.prog 180 :=.f Tryz.func180
instance ZzP:ZT Tryz.prog 213 :=.f Tryz.func213
instance ZzQ:ZT Tryz.prog 181 :=.f Tryz.func181
instance ZzR:ZT Tryz.prog 160 :=.f Tryz.func160
instance ZzS:ZT Tryz.prog 123 :=.f Tryz.func123
instance ZBz:ZT Tryz.prog 60 :=.f Tryz.func60
instance ZzT:ZT Tryz.prog 255 :=.f Tryz.func255
instance ZzU:ZT Tryz.prog 246 :=.f Tryz.func246
instance ZzV:ZT Tryz.prog 209 :=.f Tryz.func209
instance ZzW:ZT Tryz.prog 247 :=.f Tryz.func247
instance ZzX:ZT Tryz.prog 211 :=.f Tryz.func211
instance ZzY:ZT Tryz.prog 210 :=.f Tryz.func210
instance ZzZ:ZT Tryz.prog 156 :=.f Tryz.func156
instance ZBA:ZT Tryz.prog 99 :=.f Tryz.func99
instance ZA0:ZT Tryz.prog 157 :=.f Tryz.func157
instance ZA1:ZT Tryz.prog 212 :=.f Tryz.func212
instance ZA2:ZT Tryz.prog 158 :=.f Tryz.func158
instance ZBB:ZT Tryz.prog 98 :=.f Tryz.func98
instance ZBC:ZT Tryz.prog 50 :=.f Tryz.func50
instance ZBD:ZT Tryz.prog 51 :=.f Tryz.func51
instance ZA3:ZT Tryz.prog 161 :=.f Tryz.func161
instance ZA4:ZT Tryz.prog 163 :=.f Tryz.func163
instance ZA5:ZT Tryz.prog 214 :=.f Tryz.func214
instance ZA6:ZT Tryz.prog 215 :=.f Tryz.func215
instance Zpo:ZT Tryz.prog 162 :=.f Tryz.func162
instance Zf1:ZT Tryz.prog 100 :=.f Tryz.func100
instance ZA7:ZT Tryz.prog 101 :=.f Tryz.func101
instance Zpp:ZT Tryz.prog 164 :=.f Tryz.func164
instance ZA8:ZT Tryz.prog 216 :=.f Tryz.func216
instance ZA9:ZT Tryz.prog 165 :=.f Tryz.func165
instance Zbv:ZT Tryz.prog 166 :=.f Tryz.func166
instance ZjU:ZT Tryz.prog 167 :=.f Tryz.func167
instance ZAa:ZT Tryz.prog 217 :=.f Tryz.func217
instance ZAb:ZT Tryz.prog 248 :=.f Tryz.func248
instance ZAc:ZT Tryz.prog 218 :=.f Tryz.func218
instance ZAd:ZT Tryz.prog 168 :=.f Tryz.func168
instance Zpq:ZT Tryz.prog 102 :=.f Tryz.func102
instance ZAe:ZT Tryz.prog 103 :=.f Tryz.func103
instance ZAf:ZT Tryz.prog 104 :=.f Tryz.func104
instance ZBE:ZT Tryz.prog 52 :=.f Tryz.func52
instance ZAg:ZT Tryz.prog 169 :=.f Tryz.func169
instance ZAh:ZT Tryz.prog 105 :=.f Tryz.func105
instance ZjV:ZT Tryz.prog 106 :=.f Tryz.func106
instance ZBF:ZT Tryz.prog 53 :=.f Tryz.func53
instance ZAi:ZT Tryz.prog 170 :=.f Tryz.func170
instance Zpr:ZT Tryz.prog 171 :=.f Tryz.func171
instance Zps:ZT Tryz.prog 107 :=.f Tryz.func107
instance ZAj:ZT Tryz.prog 108 :=.f Tryz.func108
instance ZBG:ZT Tryz.prog 54 :=.f Tryz.func54
instance ZAk:ZT Tryz.prog 109 :=.f Tryz.func109
instance ZBH:ZT Tryz.prog 55 :=.f Tryz.func55
instance Zua:ZT Tryz.prog 24 :=.f Tryz.func24
instance Zub:ZT Tryz.prog 28 :=.f Tryz.func28
instance ZBI:ZT Tryz.prog 56 :=.f Tryz.func56
instance ZBJ:ZT Tryz.prog 57 :=.f Tryz.func57
instance ZBK:ZT Tryz.prog 58 :=.f Tryz.func58
instance Zuc:ZT Tryz.prog 26 :=.f Tryz.func26
instance Zud:ZT Tryz.prog 21 :=.f Tryz.func21
instance fn7:ZT Tryz.prog 7 :=.f Tryz.func7
instance ZjW:ZT Tryz.prog 110 :=.f Tryz.func110
instance Z8T:ZT Tryz.prog 112 :=.f Tryz.func112
instance Zpt:ZT Tryz.prog 113 :=.f Tryz.func113
instance Zpu:ZT Tryz.prog 115 :=.f Tryz.func115
instance Zpv:ZT Tryz.prog 116 :=.f Tryz.func116
instance Zpw:ZT Tryz.prog 117 :=.f Tryz.func117
instance Zpx:ZT Tryz.prog 119 :=.f Tryz.func119
instance Zpy:ZT Tryz.prog 172 :=.f Tryz.func172
instance ZjX:ZT Tryz.prog 224 :=.f Tryz.func224
instance Z5O:ZT Tryz.prog 225 :=.f Tryz.func225
instance Zf2:ZT Tryz.prog 226 :=.f Tryz.func226
instance Zf3:ZT Tryz.prog 227 :=.f Tryz.func227
def XM:List Jy:=[(⟨0,0⟩:Jy),(⟨0,31⟩:Jy),(⟨0,15⟩:Jy),(⟨0,3⟩:Jy),(⟨0,1024⟩:Jy),(⟨0,199⟩:Jy),(⟨0,15⟩:Jy),(⟨0,255⟩:Jy),(⟨1,100⟩:Jy)]
def Z3E:List Int:=[0,8,6]
def un1:=WR.mk Tryz.underlying1
def un2:=WR.mk Tryz.underlying2
def un3:=WR.mk Tryz.underlying3
def un4:=WR.mk Tryz.underlying4
def un5:=WR.mk Tryz.underlying5
def un9:=WR.mk Tryz.underlying9
def Zue:=WR.mk Tryz.underlying20
def Zuf:=WR.mk Tryz.underlying22
def Zug:=WR.mk Tryz.underlying23
def Zuh:=WR.mk Tryz.underlying25
def Zui:=WR.mk Tryz.underlying28
def Zuj:=WR.mk Tryz.underlying29
def Zuk:=WR.mk Tryz.underlying31
def Zul:=WR.mk Tryz.underlying32
def Zum:=WR.mk Tryz.underlying34
def Zun:=WR.mk Tryz.underlying37
def Zuo:=WR.mk Tryz.underlying43
def Zup:=WR.mk Tryz.underlying45
def Zuq:=WR.mk Tryz.underlying48
def Zur:=WR.mk Tryz.underlying64
def Zus:=WR.mk Tryz.underlying67
def Zut:=WR.mk Tryz.underlying71
def Zuu:=WR.mk Tryz.underlying87
def Zpz:=WR.mk Tryz.underlying100
def ZpA:=WR.mk Tryz.underlying107
def ZpB:=WR.mk Tryz.underlying109
def ZpC:=WR.mk Tryz.underlying111
def ZpD:=WR.mk Tryz.underlying116
def ZpE:=WR.mk Tryz.underlying119
def ZpF:=WR.mk Tryz.underlying120
def ZpG:=WR.mk Tryz.underlying122
def ZpH:=WR.mk Tryz.underlying126
def ZpI:=WR.mk Tryz.underlying132
def ZpJ:=WR.mk Tryz.underlying133
def ZpK:=WR.mk Tryz.underlying138
def ZpL:=WR.mk Tryz.underlying140
def ZpM:=WR.mk Tryz.underlying148
def ZpN:=WR.mk Tryz.underlying151
def ZpO:=WR.mk Tryz.underlying155
def ZpP:=WR.mk Tryz.underlying164
def ZpQ:=WR.mk Tryz.underlying165
def ZpR:=WR.mk Tryz.underlying170
def ZpS:=WR.mk Tryz.underlying191
def ZpT:=WR.mk Tryz.underlying210
def ZpU:=WR.mk Tryz.underlying218
def ZpV:=WR.mk Tryz.underlying240
def ZpW:=WR.mk Tryz.underlying241
def ZpX:=WR.mk Tryz.underlying245
def ZpY:=WR.mk Tryz.underlying246
def ZpZ:=WR.mk Tryz.underlying255
def Zq0:=WR.mk Tryz.underlying272
def Zq1:=WR.mk Tryz.underlying279
def Zq2:=WR.mk Tryz.underlying284
def Zq3:=WR.mk Tryz.underlying287
def Zq4:=WR.mk Tryz.underlying291
def Zq5:=WR.mk Tryz.underlying297
def Zq6:=WR.mk Tryz.underlying314
def Zmb:VK Tryz.prog 25 0 0 :=.f Tryz.underlying25 Zm2
def Zmc:VK Tryz.prog 25 1 1 :=.f Tryz.underlying25 Zm2
def Zmd:VK Tryz.prog 25 2 2 :=.f Tryz.underlying25 Ziz
def Zme:VK Tryz.prog 25 3 3 :=.f Tryz.underlying25 V4
def Zmf:VK Tryz.prog 34 0 0 :=.f Tryz.underlying34 Jq
def Zmg:VK Tryz.prog 34 1 1 :=.f Tryz.underlying34 Jq
def Zmh:VK Tryz.prog 34 2 2 :=.f Tryz.underlying34 Tj
def Zmi:VK Tryz.prog 34 3 3 :=.f Tryz.underlying34 sz4
def Zmj:VK Tryz.prog 34 4 4 :=.f Tryz.underlying34 V4
def Zmk:VK Tryz.prog 34 5 5 :=.f Tryz.underlying34 V4
def Zml:VK Tryz.prog 34 6 6 :=.f Tryz.underlying34 V4
def Zmm:VK Tryz.prog 34 7 7 :=.f Tryz.underlying34 Zcc
def Zmn:VK Tryz.prog 43 0 0 :=.f Tryz.underlying43 Tj
def Zmo:VK Tryz.prog 43 1 1 :=.f Tryz.underlying43 V4
def Zmp:VK Tryz.prog 43 2 2 :=.f Tryz.underlying43 V4
def Zmq:VK Tryz.prog 45 0 0 :=.f Tryz.underlying45 V4
def Zmr:VK Tryz.prog 45 1 1 :=.f Tryz.underlying45 V4
def Zms:VK Tryz.prog 45 2 2 :=.f Tryz.underlying45 V4
def Zkx:VK Tryz.prog 100 0 0 :=.f Tryz.underlying100 Tj
def Zky:VK Tryz.prog 100 1 1 :=.f Tryz.underlying100 sz2
def Zkz:VK Tryz.prog 100 2 2 :=.f Tryz.underlying100 sz2
def ZkA:VK Tryz.prog 109 0 0 :=.f Tryz.underlying109 Zp8
def ZkB:VK Tryz.prog 109 1 4 :=.f Tryz.underlying109 V4
def ZkC:VK Tryz.prog 111 0 0 :=.f Tryz.underlying111 V4
def ZkD:VK Tryz.prog 111 1 1 :=.f Tryz.underlying111 V4
def ZkE:VK Tryz.prog 111 2 2 :=.f Tryz.underlying111 V4
def ZkF:VK Tryz.prog 119 0 0 :=.f Tryz.underlying119 sz4
def ZkG:VK Tryz.prog 119 1 1 :=.f Tryz.underlying119 Jq
def ZkH:VK Tryz.prog 122 0 0 :=.f Tryz.underlying122 Z8d
def ZkI:VK Tryz.prog 122 1 4 :=.f Tryz.underlying122 Z3D
def ZkJ:VK Tryz.prog 122 2 12 :=.f Tryz.underlying122 Jq
def ZkK:VK Tryz.prog 122 3 13 :=.f Tryz.underlying122 Zp9
def ZkL:VK Tryz.prog 132 0 0 :=.f Tryz.underlying132 ZtQ
def ZkM:VK Tryz.prog 138 0 0 :=.f Tryz.underlying138 Z5K
def ZkN:VK Tryz.prog 140 0 0 :=.f Tryz.underlying140 Zpa
def ZkO:VK Tryz.prog 140 1 3 :=.f Tryz.underlying140 Z3D
def ZkP:VK Tryz.prog 140 2 11 :=.f Tryz.underlying140 ZtR
def ZkQ:VK Tryz.prog 155 1 1 :=.f Tryz.underlying155 Jq
def ZkR:VK Tryz.prog 218 0 0 :=.f Tryz.underlying218 V4
def ZkS:VK Tryz.prog 218 1 1 :=.f Tryz.underlying218 V4
def ZkT:VK Tryz.prog 240 0 0 :=.f Tryz.underlying240 V4
def ZkU:VK Tryz.prog 240 1 1 :=.f Tryz.underlying240 V4
def ZkV:VK Tryz.prog 255 0 0 :=.f Tryz.underlying255 Jq
def ZkW:VK Tryz.prog 255 1 1 :=.f Tryz.underlying255 Jq
def ZkX:VK Tryz.prog 279 0 0 :=.f Tryz.underlying279 Jq
def ZkY:VK Tryz.prog 279 1 1 :=.f Tryz.underlying279 V4
def ZkZ:VK Tryz.prog 279 2 2 :=.f Tryz.underlying279 Zm3
def Zl0:VK Tryz.prog 284 0 0 :=.f Tryz.underlying284 Jq
def Zl1:VK Tryz.prog 287 0 0 :=.f Tryz.underlying287 Zm3
def Zl2:VK Tryz.prog 291 0 0 :=.f Tryz.underlying291 Jq
def Zl3:VK Tryz.prog 291 1 1 :=.f Tryz.underlying291 V4
def rs7:=Y0.mk Tryz.results7
def Zuv:=Y0.mk Tryz.results10
def Zuw:=Y0.mk Tryz.results11
def Zux:=Y0.mk Tryz.results12
def Zuy:=Y0.mk Tryz.results13
def Zuz:=Y0.mk Tryz.results14
def ZuA:=Y0.mk Tryz.results15
def ZuB:=Y0.mk Tryz.results16
def ZuC:=Y0.mk Tryz.results17
def ZuD:=Y0.mk Tryz.results19
def ZuE:=Y0.mk Tryz.results20
def ZuF:=Y0.mk Tryz.results21
def ZuG:=Y0.mk Tryz.results23
def ZuH:=Y0.mk Tryz.results24
def ZuI:=Y0.mk Tryz.results26
def ZuJ:=Y0.mk Tryz.results27
def ZuK:=Y0.mk Tryz.results28
def ZuL:=Y0.mk Tryz.results31
def ZuM:=Y0.mk Tryz.results32
def ZuN:=Y0.mk Tryz.results33
def ZuO:=Y0.mk Tryz.results34
def ZuP:=Y0.mk Tryz.results35
def ZuQ:=Y0.mk Tryz.results36
def ZuR:=Y0.mk Tryz.results37
def ZuS:=Y0.mk Tryz.results38
def ZuT:=Y0.mk Tryz.results39
def ZuU:=Y0.mk Tryz.results40
def ZuV:=Y0.mk Tryz.results41
def ZuW:=Y0.mk Tryz.results42
def ZuX:=Y0.mk Tryz.results43
def ZuY:=Y0.mk Tryz.results44
def ZuZ:=Y0.mk Tryz.results47
def Zv0:=Y0.mk Tryz.results50
def Zv1:=Y0.mk Tryz.results51
def Zv2:=Y0.mk Tryz.results52
def Zv3:=Y0.mk Tryz.results53
def Zv4:=Y0.mk Tryz.results54
def Zv5:=Y0.mk Tryz.results55
def Zv6:=Y0.mk Tryz.results56
def Zv7:=Y0.mk Tryz.results57
def Zv8:=Y0.mk Tryz.results58
def Zv9:=Y0.mk Tryz.results59
def Zva:=Y0.mk Tryz.results60
def Zvb:=Y0.mk Tryz.results61
def Zvc:=Y0.mk Tryz.results62
def Zvd:=Y0.mk Tryz.results63
def Zve:=Y0.mk Tryz.results64
def Zvf:=Y0.mk Tryz.results65
def Zvg:=Y0.mk Tryz.results66
def Zvh:=Y0.mk Tryz.results67
def Zvi:=Y0.mk Tryz.results68
def Zvj:=Y0.mk Tryz.results69
def Zvk:=Y0.mk Tryz.results70
def Zvl:=Y0.mk Tryz.results71
def Zvm:=Y0.mk Tryz.results72
def Zvn:=Y0.mk Tryz.results76
def Zvo:=Y0.mk Tryz.results77
def Zvp:=Y0.mk Tryz.results78
def Zvq:=Y0.mk Tryz.results79
def Zvr:=Y0.mk Tryz.results80
def Zvs:=Y0.mk Tryz.results81
def Zvt:=Y0.mk Tryz.results82
def Zvu:=Y0.mk Tryz.results85
def Zvv:=Y0.mk Tryz.results86
def Zvw:=Y0.mk Tryz.results87
def Zvx:=Y0.mk Tryz.results88
def Zvy:=Y0.mk Tryz.results89
def Zvz:=Y0.mk Tryz.results90
def ZvA:=Y0.mk Tryz.results91
def ZvB:=Y0.mk Tryz.results92
def ZvC:=Y0.mk Tryz.results93
def ZvD:=Y0.mk Tryz.results94
def ZvE:=Y0.mk Tryz.results95
def ZvF:=Y0.mk Tryz.results98
def ZvG:=Y0.mk Tryz.results99
def Zq7:=Y0.mk Tryz.results100
def Zq8:=Y0.mk Tryz.results101
def Zq9:=Y0.mk Tryz.results102
def Zqa:=Y0.mk Tryz.results103
def Zqb:=Y0.mk Tryz.results104
def Zqc:=Y0.mk Tryz.results105
def Zqd:=Y0.mk Tryz.results106
def Zqe:=Y0.mk Tryz.results107
def Zqf:=Y0.mk Tryz.results108
def Zqg:=Y0.mk Tryz.results109
def Zqh:=Y0.mk Tryz.results110
def Zqi:=Y0.mk Tryz.results111
def Zqj:=Y0.mk Tryz.results112
def Zqk:=Y0.mk Tryz.results113
def Zql:=Y0.mk Tryz.results114
def Zqm:=Y0.mk Tryz.results115
def Zqn:=Y0.mk Tryz.results116
def Zqo:=Y0.mk Tryz.results117
def Zqp:=Y0.mk Tryz.results118
def Zqq:=Y0.mk Tryz.results119
def Zqr:=Y0.mk Tryz.results120
def Zqs:=Y0.mk Tryz.results121
def Zqt:=Y0.mk Tryz.results122
def Zqu:=Y0.mk Tryz.results123
def Zqv:=Y0.mk Tryz.results124
def Zqw:=Y0.mk Tryz.results125
def Zqx:=Y0.mk Tryz.results126
def Zqy:=Y0.mk Tryz.results127
def Zqz:=Y0.mk Tryz.results128
def ZqA:=Y0.mk Tryz.results129
def ZqB:=Y0.mk Tryz.results130
def ZqC:=Y0.mk Tryz.results131
def ZqD:=Y0.mk Tryz.results132
def ZqE:=Y0.mk Tryz.results136
def ZqF:=Y0.mk Tryz.results137
def ZqG:=Y0.mk Tryz.results138
def ZqH:=Y0.mk Tryz.results141
def ZqI:=Y0.mk Tryz.results142
def ZqJ:=Y0.mk Tryz.results143
def ZqK:=Y0.mk Tryz.results144
def ZqL:=Y0.mk Tryz.results156
def ZqM:=Y0.mk Tryz.results157
def ZqN:=Y0.mk Tryz.results158
def ZqO:=Y0.mk Tryz.results159
def ZqP:=Y0.mk Tryz.results160
def ZqQ:=Y0.mk Tryz.results161
def ZqR:=Y0.mk Tryz.results162
def ZqS:=Y0.mk Tryz.results163
def ZqT:=Y0.mk Tryz.results164
def ZqU:=Y0.mk Tryz.results165
def ZqV:=Y0.mk Tryz.results166
def ZqW:=Y0.mk Tryz.results167
def ZqX:=Y0.mk Tryz.results168
def ZqY:=Y0.mk Tryz.results169
def ZqZ:=Y0.mk Tryz.results170
def Zr0:=Y0.mk Tryz.results171
def Zr1:=Y0.mk Tryz.results172
def Zr2:=Y0.mk Tryz.results173
def Zr3:=Y0.mk Tryz.results174
def Zr4:=Y0.mk Tryz.results175
def Zr5:=Y0.mk Tryz.results176
def Zr6:=Y0.mk Tryz.results177
def Zr7:=Y0.mk Tryz.results178
def Zr8:=Y0.mk Tryz.results179
def Zr9:=Y0.mk Tryz.results180
def Zra:=Y0.mk Tryz.results181
def Zrb:=Y0.mk Tryz.results182
def Zrc:=Y0.mk Tryz.results183
def Zrd:=Y0.mk Tryz.results184
def Zre:=Y0.mk Tryz.results185
def Zrf:=Y0.mk Tryz.results186
def Zrg:=Y0.mk Tryz.results187
def Zrh:=Y0.mk Tryz.results188
def Zri:=Y0.mk Tryz.results189
def Zrj:=Y0.mk Tryz.results190
def Zrk:=Y0.mk Tryz.results199
def Zrl:=Y0.mk Tryz.results200
def Zrm:=Y0.mk Tryz.results201
def Zrn:=Y0.mk Tryz.results209
def Zro:=Y0.mk Tryz.results210
def Zrp:=Y0.mk Tryz.results211
def Zrq:=Y0.mk Tryz.results212
def Zrr:=Y0.mk Tryz.results213
def Zrs:=Y0.mk Tryz.results214
def Zrt:=Y0.mk Tryz.results215
def Zru:=Y0.mk Tryz.results216
def Zrv:=Y0.mk Tryz.results217
def Zrw:=Y0.mk Tryz.results218
def Zrx:=Y0.mk Tryz.results219
def Zry:=Y0.mk Tryz.results220
def Zrz:=Y0.mk Tryz.results221
def ZrA:=Y0.mk Tryz.results222
def ZrB:=Y0.mk Tryz.results223
def ZrC:=Y0.mk Tryz.results224
def ZrD:=Y0.mk Tryz.results225
def ZrE:=Y0.mk Tryz.results226
def ZrF:=Y0.mk Tryz.results227
def ZrG:=Y0.mk Tryz.results228
def ZrH:=Y0.mk Tryz.results229
def ZrI:=Y0.mk Tryz.results230
def ZrJ:=Y0.mk Tryz.results231
def ZrK:=Y0.mk Tryz.results232
def ZrL:=Y0.mk Tryz.results233
def ZrM:=Y0.mk Tryz.results234
def ZrN:=Y0.mk Tryz.results235
def ZrO:=Y0.mk Tryz.results239
def ZrP:=Y0.mk Tryz.results240
def ZrQ:=Y0.mk Tryz.results242
def ZrR:=Y0.mk Tryz.results246
def ZrS:=Y0.mk Tryz.results247
def ZrT:=Y0.mk Tryz.results248
def ZrU:=Y0.mk Tryz.results249
def ZrV:=Y0.mk Tryz.results250
def ZrW:=Y0.mk Tryz.results251
def ZrX:=Y0.mk Tryz.results253
def ZrY:=Y0.mk Tryz.results254
def ZrZ:=Y0.mk Tryz.results255
attribute [reducible, instance] un1 un2 un3 un4 un5 un9 Zue Zuf Zug Zuh Zui Zuj Zuk Zul Zum Zun Zuo Zup Zuq Zur Zus Zut Zuu Zpz ZpA ZpB ZpC ZpD ZpE ZpF ZpG ZpH ZpI ZpJ ZpK ZpL ZpM ZpN ZpO ZpP ZpQ ZpR ZpS ZpT ZpU ZpV ZpW ZpX ZpY ZpZ Zq0 Zq1 Zq2 Zq3 Zq4 Zq5 Zq6 Zmb Zmc Zmd Zme Zmf Zmg Zmh Zmi Zmj Zmk Zml Zmm Zmn Zmo Zmp Zmq Zmr Zms Zkx Zky Zkz ZkA ZkB ZkC ZkD ZkE ZkF ZkG ZkH ZkI ZkJ ZkK ZkL ZkM ZkN ZkO ZkP ZkQ ZkR ZkS ZkT ZkU ZkV ZkW ZkX ZkY ZkZ Zl0 Zl1 Zl2 Zl3 rs7 Zuv Zuw Zux Zuy Zuz ZuA ZuB ZuC ZuD ZuE ZuF ZuG ZuH ZuI ZuJ ZuK ZuL ZuM ZuN ZuO ZuP ZuQ ZuR ZuS ZuT ZuU ZuV ZuW ZuX ZuY ZuZ Zv0 Zv1 Zv2 Zv3 Zv4 Zv5 Zv6 Zv7 Zv8 Zv9 Zva Zvb Zvc Zvd Zve Zvf Zvg Zvh Zvi Zvj Zvk Zvl Zvm Zvn Zvo Zvp Zvq Zvr Zvs Zvt Zvu Zvv Zvw Zvx Zvy Zvz ZvA ZvB ZvC ZvD ZvE ZvF ZvG Zq7 Zq8 Zq9 Zqa Zqb Zqc Zqd Zqe Zqf Zqg Zqh Zqi Zqj Zqk Zql Zqm Zqn Zqo Zqp Zqq Zqr Zqs Zqt Zqu Zqv Zqw Zqx Zqy Zqz ZqA ZqB ZqC ZqD ZqE ZqF ZqG ZqH ZqI ZqJ ZqK ZqL ZqM ZqN ZqO ZqP ZqQ ZqR ZqS ZqT ZqU ZqV ZqW ZqX ZqY ZqZ Zr0 Zr1 Zr2 Zr3 Zr4 Zr5 Zr6 Zr7 Zr8 Zr9 Zra Zrb Zrc Zrd Zre Zrf Zrg Zrh Zri Zrj Zrk Zrl Zrm Zrn Zro Zrp Zrq Zrr Zrs Zrt Zru Zrv Zrw Zrx Zry Zrz ZrA ZrB ZrC ZrD ZrE ZrF ZrG ZrH ZrI ZrJ ZrK ZrL ZrM ZrN ZrO ZrP ZrQ ZrR ZrS ZrT ZrU ZrV ZrW ZrX ZrY ZrZ
attribute [local irreducible] CP SP QE DA DT Val St
def Jf.f(Zx:List Int)(a1 Z4l:Int):Option ((List Int)×Int):=
  if((decide (a1<0))||(decide (a1>(Zx.length:Int))))=true then(some ([],2))else(if(IntKind.i64.wrap ((Zx.length:Int)-a1))<Z4l then(some ([],10))else(if((0:Int)≤a1∧a1≤(IntKind.i64.wrap (a1+Z4l)))∧(IntKind.i64.wrap (a1+Z4l))≤(Zx.length:Int)then(some (((Zx.take (IntKind.i64.wrap (a1+Z4l):Int).toNat).drop (a1:Int).toNat),0))else none))
theorem Jf.ok{Zx a1 Z4l Yf}(r)(ho:Jf.f Zx a1 Z4l=some r):Ok Tryz.prog 173 [Yf,i6 a1,i6 Z4l] [Z9 kb Yf Zx] fun v=>HO.ex fun u0:Value=>HO.Yr (v=.tuple #[u0,i6 r.2]) (HO.Yk [HO.ofP (Z9 kb u0 r.1)]):=by
 refine oq 30 Tryz.func173 fun w hV see pb=>?_;refine sj 5 [0,1,2] 16 ho ?_ ?_
 ·refine gg ?_;refine cb ho (fun ho=>?_) fun ho=>?_
  ·exact sI ho▸rt (fun _ h=>sQ [] (St.know (fun h _=>Z9.nil kb h) h)) (hk:=fun a b p s=>⟨_,rfl,⟨em,em,Dj.YM _,Sub.em _,Sub.em _,p.get 0 rfl,trivial⟩⟩)
  refine ci ho (fun ho=>?_) fun ho=>?_
  ·exact sI ho▸rt (fun _ h=>sQ [] (St.know (fun h _=>Z9.nil kb h) h)) (hk:=fun a b p s=>⟨_,rfl,⟨em,em,Dj.YM _,Sub.em _,Sub.em _,p.get 0 rfl,trivial⟩⟩)
  obtain⟨hz,ho⟩:=Xn ho;refine SP.Zkw see 0 rfl Tryz.underlying31 Tj.h rfl rfl rfl hz rfl rfl (fun v6=>?_);clear hz;refine gg ?_;exact sI ho▸rt (sO []) (hk:=fun a b p s=>⟨_,rfl,⟨em,em,Dj.YM _,Sub.em _,Sub.em _,p.get 0 rfl,trivial⟩⟩)
 refine bb 11 (fun hq3=>?_) fun hq3=>?_
 ·exact jb (Vi hq3)
 exact jb (Vj hq3 rfl)
inductive XY.S where
  |start
  |l1 (x6 x7:Int)
def XY.F(Zx:List Int):XY.S→Option (XY.S⊕Int)
  | .start=>some (.inl (.l1 0 0))
  | .l1 x6 x7=>if x7<(Zx.length:Int)then((elt Zx x7).bind fun Zh=>if 0≤(IntKind.i64.wrap (8*x7))then(some (.inl (.l1 (orI .u64 x6 (Z5H .u64 (IntKind.u64.wrap Zh) (IntKind.i64.wrap (8*x7)))) (IntKind.i64.wrap (x7+1)))))else none)else(some (.inr x6))
def XY.f(Zx:List Int):Option Int:=Zw (XY.F Zx) .start
theorem XY.ok{Zx Yf}(r)(H:XY.f Zx=some r):Ok Tryz.prog 174 [Yf] [Z9 kb Yf Zx] fun v=>HO.pure (v=.int .u64 r):=by
 refine oq 22 Tryz.func174 fun w hV see pb=>?_;obtain⟨m0,o,ho,hr⟩:=rn H;refine lo ho hr (fun z=>∃x6 x7,z (.l1 x6 x7) [(3,.int .u64 x6),(6,Yf),(7,i6 (Zx.length:Int)),(8,i6 x7)] []) (fun _ z=>⟨0,0,z⟩) ?_;rintro _ _ _ ⟨x6,x7,m8,o,_,_,ho,hr,h⟩;refine en h ?_;refine ci ho (fun ho=>?_) fun ho=>?_
 ·refine ip 0 ho fun Zh ho p9=>?_;obtain⟨hz,ho⟩:=Xn ho;refine SP.val (Val.shl hz rfl rfl) rfl rfl rfl ?_;clear hz;refine SP.val (Val.or rfl rfl) rfl rfl rfl (gg ?_);exact lw ho hr (fun _ z=>⟨(orI .u64 x6 (Z5H .u64 (IntKind.u64.wrap Zh) (wr (8*x7)))),(wr (x7+1)),z⟩)
 exact fin ho hr▸rt
def Xc.j1(Zx:List Int)(a1 WU Kh Xt:Int):Option (Int×Int×Int):=
  if Xt≠0 then(some (0,0,Xt))else(some (IntKind.i64.wrap Kh,IntKind.i64.wrap (a1+WU),Xt))
def Xc.f(Zx:List Int)(a1 WU:Int):Option (Int×Int×Int):=
  if((decide (WU<1))||(decide (WU>8)))=true then(some (0,0,2))else((Jf.f Zx a1 WU).bind fun t10=>(XY.f t10.1).bind fun Kh=>if Kh>9223372036854775807 then(Xc.j1 Zx a1 WU Kh 11)else(Xc.j1 Zx a1 WU Kh t10.2))
theorem Xc.ok(Zx:List Int)(a1 WU:Int)(Yf:Value)(r:Int×Int×Int)(H:Xc.f Zx a1 WU=some r)(w:World)(hV:Hp)(sV:Sub hV (hp w))(h0:Xb kb hV Yf Zx) :
    XL Tryz.prog 111 [Yf,i6 a1,i6 WU].toArray em hV w (fun v=>HO.pure (v=.tuple #[i6 r.1,i6 r.2.1,i6 r.2.2])):=by
 have see:YG w em hV:=⟨sV,Dj.WM _⟩
 refine XL.ofD (P:=Tryz.prog) (n:=⟨37,[]⟩) Tryz.func111 rfl ⟨rfl,rfl⟩ rfl (St.begin (aS h0 (All.nil _))) ?_;have ho:=H;refine gg ?_;refine al fun b2=>?_;refine al fun b4=>?_;refine al fun b6=>?_;refine sj 3 [0,1,2,6,7,8] 16 ho ?_ ?_;rotate_left
 ·refine bb 13 (fun hq9=>?_) fun hq9=>?_
  ·exact jb (Vi hq9)
  exact jb (Vj hq9 rfl)
 refine gg ?_;refine cb ho (fun ho=>?_) fun ho=>?_
 ·refine st 2 ?_;refine st 1 ?_;refine st 0 ?_;obtain rfl:=sI ho;exact QE.ZlW (rs:=[.cell 6 3,.cell 7 3,.cell 8 28]) (vs:=[i6 0,i6 0,i6 2]) Tryz.results111 rfl ⟨Xp.cell1 2 rfl rfl Tryz.underlying3 rfl,Xp.cell1 1 rfl rfl Tryz.underlying3 rfl,Xp.cell1 0 rfl rfl Tryz.underlying28 rfl,trivial⟩ (fun w2 h=>St.done (fun a b p s=>rfl) h)
 refine SP.defer rfl rfl rfl rfl (gg ?_);obtain⟨t10,hc,ho⟩:=bind_some ho;refine SP.Ti see (caps:=[]) _ ZjR.h rfl rfl rfl rfl (fun w2 hP hs sub ap=>Jf.ok _ hc w2 hP sub (aS (ap.get 0 rfl) (All.nil _))) (SP.k1 fun v11=>?_);refine SP.imp (fun w2 h=>St.toP 0 rfl h) ?_;clear hc;refine gg ?_;refine st 0 ?_;refine kv (h:=fun _=>id) XY.ok ho fun Kh ho=>?_;refine go ?_;refine oi r (fun z=>∃Xt,z (Xc.j1 Zx a1 WU Kh Xt) [(6,pt b2),(7,pt b4),(8,pt b6)] [Zl b6 [i6 Xt] 28,Zl b4 [i6 (wr (a1+WU))] 3,Zl b2 [i6 (wr Kh)] 3]) ?_ ?_ (hb:=pe []);rotate_left
 ·refine gg ?_;refine st 2 ?_;refine st 1 ?_;refine ci ho (fun ho=>?_) fun ho=>?_
  ·refine st 0 ?_;exact mo ho (fun _ z=>⟨11,z⟩)
  exact mo ho (fun _ z=>⟨t10.2,z⟩)
 rintro _ _ ⟨Xt,ho,h⟩;refine en h ?_;refine dr ?_;refine DA.ph 0 5 ?_;refine DT.tk 0 ?_;refine DT.tk 1 ?_;refine DT.tk 2 ?_;refine DT.one 3 rfl (by kernel_rfl) rfl ?_;refine st 2 ?_;refine QE.Vq (fun w2 hw=>hw) ?_;refine DT.one 4 rfl (by kernel_rfl) rfl ?_;refine st 1 ?_;refine QE.Vq (fun w2 hw=>hw) ?_;refine dn ?_;refine d1 5 ?_;refine st 0 ?_;refine dz ?_;refine QE.door (vals:=[]) (caps:=[pt b6,pt b2,pt b4]) 5 Tryz.func172 Zpy.h rfl rfl rfl fun a15 Zgl=>gg ?_;refine ci ho (fun ho=>?_) fun ho=>?_
 ·refine st 2 ?_;refine st 1 ?_;obtain rfl:=sI ho;exact QE.Z1l (.inr rfl) Zgl Tryz.results172 (rs:=[.cell 6 3,.cell 7 3,.cell 8 28]) (vs:=[i6 0,i6 0,i6 Xt]) Tryz.results111 ⟨Xp.cell1 2 rfl rfl Tryz.underlying3 rfl,Xp.cell1 1 rfl rfl Tryz.underlying3 rfl,Xp.cell1 0 rfl rfl Tryz.underlying28 rfl,trivial⟩ (fun w2 h=>St.done (fun a b p s=>rfl) h)
 obtain rfl:=sI ho;exact QE.Z1l (.inr rfl) Zgl Tryz.results172 (rs:=[.cell 6 3,.cell 7 3,.cell 8 28]) (vs:=[i6 (wr Kh),i6 (wr (a1+WU)),i6 Xt]) Tryz.results111 ⟨Xp.cell1 2 rfl rfl Tryz.underlying3 rfl,Xp.cell1 1 rfl rfl Tryz.underlying3 rfl,Xp.cell1 0 rfl rfl Tryz.underlying28 rfl,trivial⟩ (fun w2 h=>St.done (fun a b p s=>rfl) h)
inductive Wp.S where
  |start
  |l1 (x6 x7:Int)
def Wp.F(Zx:List Int):Wp.S→Option (Wp.S⊕Int)
  | .start=>some (.inl (.l1 0 0))
  | .l1 x6 x7=>if x7<(Zx.length:Int)then((elt Zx x7).bind fun Zh=>if 0≤(IntKind.i64.wrap (8*x7))then(some (.inl (.l1 (orI .i64 x6 (Z5H .i64 (IntKind.i64.wrap Zh) (IntKind.i64.wrap (8*x7)))) (IntKind.i64.wrap (x7+1)))))else none)else(some (.inr x6))
def Wp.f(Zx:List Int):Option Int:=Zw (Wp.F Zx) .start
theorem Wp.ok{Zx Yf}(r)(H:Wp.f Zx=some r):Ok Tryz.prog 249 [Yf] [Z9 kb Yf Zx] fun v=>HO.pure (v=i6 r):=by
 refine oq 22 Tryz.func249 fun w hV see pb=>?_;obtain⟨m0,o,ho,hr⟩:=rn H;refine lo ho hr (fun z=>∃x6 x7,z (.l1 x6 x7) [(3,i6 x6),(6,Yf),(7,i6 (Zx.length:Int)),(8,i6 x7)] []) (fun _ z=>⟨0,0,z⟩) ?_;rintro _ _ _ ⟨x6,x7,m8,o,_,_,ho,hr,h⟩;refine en h ?_;refine ci ho (fun ho=>?_) fun ho=>?_
 ·refine ip 0 ho fun Zh ho p9=>?_;obtain⟨hz,ho⟩:=Xn ho;refine SP.val (Val.shl hz rfl rfl) rfl rfl rfl ?_;clear hz;refine SP.val (Val.or rfl rfl) rfl rfl rfl (gg ?_);exact lw ho hr (fun _ z=>⟨(orI .i64 x6 (Z5H .i64 (wr Zh) (wr (8*x7)))),(wr (x7+1)),z⟩)
 exact fin ho hr▸rt
def Ki.f(Zx:List Int)(a1:Int):Option (Int×Int×Int):=
  (Jf.f Zx a1 8).bind fun t2=>if t2.2≠0 then(some (0,0,t2.2))else((Wp.f t2.1).bind fun t5=>some (t5,IntKind.i64.wrap (a1+8),0))
theorem Ki.ok{Zx a1 Yf}(r)(ho:Ki.f Zx a1=some r):Ok Tryz.prog 219 [Yf,i6 a1] [Z9 kb Yf Zx] fun v=>HO.pure (v=.tuple #[i6 r.1,i6 r.2.1,i6 r.2.2]):=by
 refine oq 22 Tryz.func219 fun w hV see pb=>?_;obtain⟨t2,hc,ho⟩:=bind_some ho;refine SP.Ti see (caps:=[]) _ ZjR.h rfl rfl rfl rfl (fun w2 hP hs sub ap=>Jf.ok _ hc w2 hP sub (aS (ap.get 0 rfl) (All.nil _))) (SP.k1 fun v3=>?_);refine SP.imp (fun w2 h=>St.toP 0 rfl h) ?_;clear hc;refine gg ?_;refine ci ho (fun ho=>?_) fun ho=>?_
 ·exact sI ho▸rt
 refine kv Wp.ok ho fun t5 ho=>?_;exact sI ho▸rt
def JX.f(Xf:Int):Option Zp:=
  some (⟨1,Xf,0⟩:Zp)
theorem JX.ok{Xf}(r)(ho:JX.f Xf=some r):Ok Tryz.prog 220 [i6 Xf] [] fun v=>HO.pure (v=.agg #[i8 r.Kind,i6 r.A,i6 r.B]):=by
 refine oq 5 Tryz.func220 fun w hV see pb=>?_;refine al fun b1=>?_;refine bd [i8 1,i6 Xf,i6 0] ?_;refine st 0 ?_;exact sI ho▸rt
def Z28.f(p_0:Z2q):Option Bool:=
  if((decide (p_0.e0<(-1048576)))||(decide (p_0.e0>1048576)))=true then(some false)else(if((decide (p_0.e1<(-1048576)))||(decide (p_0.e1>1048576)))=true then(some false)else(some true))
theorem Z28.ok{p_0}(r)(ho:Z28.f p_0=some r):Ok Tryz.prog 250 [.agg #[i6 p_0.e0,i6 p_0.e1]] [] fun v=>HO.pure (v=.bool r):=by
 refine oq 16 Tryz.func250 fun w hV see pb=>?_;refine bx fun b1=>?_;refine CP.rounds 4 ?_;refine LP.step (gg ?_);refine CP.W9 rfl rfl (gg ?_);refine SP.val (Val.Z1m 0 Tryz.underlying314 Tryz.underlying2 rfl sz2.h rfl rfl rfl rfl) rfl rfl rfl (gg ?_);refine sj 3 [5,6] 14 ho ?_ ?_;rotate_left
 ·refine bb 11 (fun hq4=>?_) fun hq4=>?_
  ·exact jb (Vi hq4)
  exact jb (Vj hq4 rfl)
 refine gg ?_;refine cb ho (fun ho=>?_) fun ho=>?_
 ·exact sI ho▸rt
 refine QE.round ?_;refine LP.step (gg ?_);refine CP.W9 rfl rfl (gg ?_);refine SP.val (Val.Z1m 1 Tryz.underlying314 Tryz.underlying2 rfl sz2.h rfl rfl rfl rfl) rfl rfl rfl (gg ?_);refine sj 3 [5,6] 14 ho ?_ ?_
 ·refine gg ?_;refine cb ho (fun ho=>?_) fun ho=>?_
  ·exact sI ho▸rt
  refine QE.round ?_;refine LP.step (gg ?_);refine CP.K4 rfl rfl (gg ?_);exact sI ho▸rt
 refine bb 11 (fun hq6=>?_) fun hq6=>?_
 ·exact jb (Vi hq6)
 exact jb (Vj hq6 rfl)
def Jg.f(a_0 b_1:Int):Option (Zp×Bool):=
  (Z28.f (⟨a_0,b_1⟩:Z2q)).bind fun t3=>if(!t3)=true then(some ((⟨0,0,0⟩:Zp),false))else(some ((⟨2,a_0,b_1⟩:Zp),true))
theorem Jg.ok{a_0 b_1}(r)(ho:Jg.f a_0 b_1=some r):Ok Tryz.prog 221 [i6 a_0,i6 b_1] [] fun v=>HO.pure (v=.tuple #[.agg #[i8 r.1.Kind,i6 r.1.A,i6 r.1.B],.bool r.2]):=by
 refine oq 15 Tryz.func221 fun w hV see pb=>?_;refine al fun b1=>?_;refine bd [i6 a_0,i6 b_1] ?_;refine kv Z28.ok ho fun t3 ho=>?_;refine cb ho (fun ho=>?_) fun ho=>?_
 ·refine bd [i8 0,i6 0,i6 0] ?_;refine st 0 ?_;exact sI ho▸rt
 refine bd [i8 2,i6 a_0,i6 b_1] ?_;refine st 0 ?_;exact sI ho▸rt
def Z1o.f(Zx:List Int)(a1:Int):Option (Zp×Int×Int):=
  (Xc.f Zx a1 1).bind fun t4=>if t4.2.2≠0 then(some ((⟨0,0,0⟩:Zp),0,t4.2.2))else((if t4.1≥3 then(some true)else((elt Z3E t4.1).bind fun x9=>some (decide (x9=0)))).bind fun t10=>if t10=true then(some ((⟨0,0,0⟩:Zp),0,30))else((elt Z3E t4.1).bind fun WZ=>if(IntKind.i64.wrap (t4.2.1+WZ))>(Zx.length:Int)then(some ((⟨0,0,0⟩:Zp),0,10))else(if(IntKind.u8.wrap t4.1)=1 then((Ki.f Zx t4.2.1).bind fun t14=>(JX.f t14.1).bind fun Kj=>some (Kj,IntKind.i64.wrap (t4.2.1+WZ),0))else((Xc.f Zx t4.2.1 3).bind fun t16=>(Xc.f Zx t16.2.1 3).bind fun t17=>(Jg.f (IntKind.i64.wrap (t16.1-1048576)) (IntKind.i64.wrap (t17.1-1048576))).bind fun Te=>if(!Te.2)=true then(some ((⟨0,0,0⟩:Zp),0,30))else(some (Te.1,IntKind.i64.wrap (t4.2.1+WZ),0))))))
theorem Z1o.ok{Zx a1 Yf}(r)(ho:Z1o.f Zx a1=some r):Ok Tryz.prog 175 [Yf,i6 a1] [Z9 kb Yf Zx,Xi ki 1 Z3E] fun v=>HO.pure (v=.tuple #[.agg #[i8 r.1.Kind,i6 r.1.A,i6 r.1.B],i6 r.2.1,i6 r.2.2]):=by
 refine oq 90 Tryz.func175 fun w hV see pb=>?_;refine al fun b2=>?_;obtain⟨t4,hc,ho⟩:=bind_some ho;refine SP.Z05 see (caps:=[]) (.tuple #[i6 t4.1,i6 t4.2.1,i6 t4.2.2]) Z3h.h rfl rfl rfl rfl (fun w2 hP hs sub ap=>Xc.ok _ _ _ _ _ hc w2 hP sub (ap.get 0 rfl)) ?_;clear hc;refine gg ?_;refine ci ho (fun ho=>?_) fun ho=>?_
 ·refine bd [i8 0,i6 0,i6 0] ?_;refine st 0 ?_;exact sI ho▸rt
 obtain⟨t10,Z3r,ho⟩:=bind_some ho;refine sj 5 [0,1,4,7] 38 ho ?_ ?_;rotate_left
 ·refine bi 33 Z3r (fun hq6 ho=>?_) fun hq6 ho=>?_
  ·obtain rfl:=sI ho;exact jn
  obtain⟨x9,hx,ho⟩:=Yu ho;refine SP.Zc3 see 1 rfl Tryz.underlying272 rfl V4.h hx.1 hx.2 rfl rfl rfl rfl (fun p7=>?_);clear hx;refine gg ?_;obtain rfl:=sI ho;exact QE.jn fun w2 hw=>(St.V5 [1,2] rfl hw)
 clear Z3r;refine gg ?_;refine cb ho (fun ho=>?_) fun ho=>?_
 ·refine bd [i8 0,i6 0,i6 0] ?_;refine st 0 ?_;exact sI ho▸rt
 obtain⟨WZ,hx,ho⟩:=Yu ho;refine SP.Zc3 see 1 rfl Tryz.underlying272 rfl V4.h hx.1 hx.2 rfl rfl rfl rfl (fun p11=>?_);clear hx;refine gg ?_;refine ci ho (fun ho=>?_) fun ho=>?_
 ·refine bd [i8 0,i6 0,i6 0] ?_;refine st 0 ?_;exact sI ho▸rt
 refine ci ho (fun ho=>?_) fun ho=>?_
 ·refine kv Ki.ok ho fun t14 ho=>?_;refine kv JX.ok ho fun Kj ho=>?_;refine st 0 ?_;exact sI ho▸rt
 obtain⟨t16,hc,ho⟩:=bind_some ho;refine SP.Z05 see (caps:=[]) (.tuple #[i6 t16.1,i6 t16.2.1,i6 t16.2.2]) Z3h.h rfl rfl rfl rfl (fun w2 hP hs sub ap=>Xc.ok _ _ _ _ _ hc w2 hP sub (ap.get 1 rfl)) ?_;clear hc;refine gg ?_;obtain⟨t17,hc,ho⟩:=bind_some ho;refine SP.Z05 see (caps:=[]) (.tuple #[i6 t17.1,i6 t17.2.1,i6 t17.2.2]) Z3h.h rfl rfl rfl rfl (fun w2 hP hs sub ap=>Xc.ok _ _ _ _ _ hc w2 hP sub (ap.get 1 rfl)) ?_;clear hc;refine gg ?_;refine kv Jg.ok ho fun Te ho=>?_;refine al fun b19=>?_;refine st 0 ?_;refine cb ho (fun ho=>?_) fun ho=>?_
 ·refine bd [i8 0,i6 0,i6 0] ?_;refine st 1 ?_;exact sI ho▸rt
 refine st 1 ?_;exact sI ho▸rt
inductive Vr.S where
  |start
  |l1 (t2:Int×Int×Int) (WS:Int) (Tf:List Zp) (x20:Int)
def Vr.F(Zx:List Int)(a1:Int):Vr.S→Option (Vr.S⊕((List Zp)×Int×Int))
  | .start=>(Xc.f Zx a1 1).bind fun t2=>if t2.2.2≠0 then(some (.inr ([],0,t2.2.2)))else(if t2.1>32 then(some (.inr ([],0,60)))else(some (.inl (.l1 t2 t2.2.1 [] 0))))
  | .l1 t2 WS Tf x20=>if x20<t2.1 then((Z1o.f Zx WS).bind fun t22=>if t22.2.2≠0 then(some (.inr ([],0,t22.2.2)))else(if(Tf.length + [t22.1].length)*24≤140737488355328 then(some (.inl (.l1 t2 t22.2.1 (Tf ++ [t22.1]) (IntKind.i64.wrap (x20+1)))))else none))else(some (.inr (Tf,WS,0)))
def Vr.f(Zx:List Int)(a1:Int):Option ((List Zp)×Int×Int):=Zw (Vr.F Zx a1) .start
theorem Vr.ok{Zx a1 Yf}(r)(H:Vr.f Zx a1=some r):Ok Tryz.prog 114 [Yf,i6 a1] [Z9 kb Yf Zx,Xi ki 1 Z3E] fun v=>HO.ex fun u0:Value=>HO.Yr (v=.tuple #[u0,i6 r.2.1,i6 r.2.2]) (HO.Yk [Zg Z4 100 u0 r.1]):=by
 refine oq 46 Tryz.func114 fun w hV see pb=>?_;obtain⟨m0,o,ho,hr⟩:=rn H;obtain⟨t2,hc,ho⟩:=bind_some ho;refine SP.Z05 see (caps:=[]) (.tuple #[i6 t2.1,i6 t2.2.1,i6 t2.2.2]) Z3h.h rfl rfl rfl rfl (fun w2 hP hs sub ap=>Xc.ok _ _ _ _ _ hc w2 hP sub (ap.get 0 rfl)) ?_;clear hc;refine gg ?_;refine ci ho (fun ho=>?_) fun ho=>?_
 ·exact fin ho hr▸rt (fun _ h=>sQ [0] (nO Z4 100 h))
 refine ci ho (fun ho=>?_) fun ho=>?_
 ·exact fin ho hr▸rt (fun _ h=>sQ [0] (nO Z4 100 h))
 refine lo ho hr (fun z=>∃WS Tf x20 v19,z (.l1 t2 WS Tf x20) [(0,Yf),(1,i6 WS),(9,v19),(25,i6 t2.1),(26,i6 x20)] [Zg Z4 100 v19 Tf]) (fun _ z=>⟨t2.2.1,[],0,nl,z⟩) ?_ (fun _ hw=>(nO Z4 100 hw));rintro _ _ _ ⟨WS,Tf,x20,v19,m21,o,_,_,ho,hr,h⟩;refine en h ?_;refine ci ho (fun ho=>?_) fun ho=>?_
 ·refine kv Z1o.ok ho fun t22 ho=>?_;refine al fun b23=>?_;refine st 0 ?_;refine ci ho (fun ho=>?_) fun ho=>?_
  ·exact fin ho hr▸rt (fun _ h=>sQ [0] (nO Z4 100 h))
  refine li (h:=fun _=>id) Z4 [t22.1] fun v26=>?_;refine fz 0 ?_;refine ap 1 0 ho fun v28 ho=>?_;exact lw ho hr (fun _ z=>⟨t22.2.1,(Tf ++ [t22.1]),(wr (x20+1)),v28,z⟩) (sO [1])
 exact fin ho hr▸rt (sO [0])
def Zv.j1(Z2r:List Int)(Z0O Z1G U6 Z1p Z2s:Int)(t6:Int×Int×Int)(Zh:Int):Option (Int×Int×Int):=
  some (t6.1,t6.2.1,Zh)
def Zv.f(Z2r:List Int)(Z0O Z1G U6 Z1p Z2s:Int):Option (Int×Int×Int):=
  if Z1G≠0 then(some (0,Z0O,Z1G))else((Xc.f Z2r Z0O U6).bind fun t6=>if((decide (t6.2.2=0))&&((decide (t6.1<Z1p))||(decide (t6.1>Z2s))))=true then(Zv.j1 Z2r Z0O Z1G U6 Z1p Z2s t6 70)else(Zv.j1 Z2r Z0O Z1G U6 Z1p Z2s t6 t6.2.2))
theorem Zv.ok(Z2r:List Int)(Z0O Z1G U6 Z1p Z2s:Int)(Z0P:Value)(r:Int×Int×Int)(H:Zv.f Z2r Z0O Z1G U6 Z1p Z2s=some r)(w:World)(hV:Hp)(sV:Sub hV (hp w))(h0:Xb kb hV Z0P Z2r)(b1:Nat)(hA:Hp)(sA:Sub hA (hp w))(dA:Dj hV hA)(hI:(Zl b1 [Z0P,i6 Z0O,i6 Z1G] 279).p hV hA) :
    XL Tryz.prog 223 [pt b1,i6 U6,i6 Z1p,i6 Z2s].toArray hA hV w (fun v=>HO.Yr (v=i6 r.1) (HO.Yk [Zl b1 [Z0P,i6 r.2.1,i6 r.2.2] 279])):=by
 have see:YG w hA hV:=⟨sV,dA⟩
 refine XL.of (P:=Tryz.prog) (n:=⟨55,[]⟩) Tryz.func223 rfl ⟨rfl,rfl⟩ rfl (St.K6 (os:=[Zl b1 [Z0P,i6 Z0O,i6 Z1G] 279]) sA (aS h0 (All.nil _)) ⟨hA,em,Dj.WM _,Sub.refl _,Sub.em _,hI,trivial⟩) ?_;have ho:=H;refine gg ?_;refine ci ho (fun ho=>?_) fun ho=>?_
 ·exact sI ho▸rt (sO [0])
 refine dr ?_;refine DA.ph 0 9 ?_;refine DT.tk 0 ?_;refine DT.tk 1 ?_;refine DT.tk 2 ?_;refine DT.tk 3 ?_;refine DT.tk 4 ?_;refine DT.tk 5 ?_;refine DT.tk 6 ?_;refine DT.tk 7 ?_;refine DT.tk 8 ?_;refine dn ?_;refine d1 9 ?_;obtain⟨t6,hc,ho⟩:=bind_some ho;refine SP.Z05 see (caps:=[]) (.tuple #[i6 t6.1,i6 t6.2.1,i6 t6.2.2]) Z3h.h rfl rfl rfl rfl (fun w2 hP hs sub ap=>Xc.ok _ _ _ _ _ hc w2 hP sub (ap.get 0 rfl)) ?_;clear hc;refine gg ?_;refine d1 10 ?_;refine DA.ph 11 16 ?_;refine DT.tk 11 ?_;refine DT.tk 12 ?_;refine DT.tk 13 ?_;refine DT.tk 14 ?_;refine DT.tk 15 ?_;refine dn ?_;refine d1 16 ?_;refine dz (h:=id) ?_;refine go ?_;refine oi r (fun z=>∃Zh,z (Zv.j1 Z2r Z0O Z1G U6 Z1p Z2s t6 Zh) [(0,pt b1),(9,i6 t6.1),(10,i6 t6.2.1)] [Zl b1 [Z0P,i6 Z0O,i6 Zh] 279]) ?_ ?_ (hb:=pe [Z9 kb Z0P Z2r])
 ·rintro _ _ ⟨Zh,ho,h⟩;refine en h ?_;refine st 0 ?_;exact sI ho▸rt (sO [0])
 refine gg ?_;refine st 0 ?_;refine sj 9 [0,9,10] 46 ho ?_ ?_
 ·refine gg ?_;refine cb ho (fun ho=>?_) fun ho=>?_
  ·refine st 0 ?_;exact mo ho (fun _ z=>⟨70,z⟩)
  exact mo ho (fun _ z=>⟨t6.2.2,z⟩)
 refine bb 37 (fun hq8=>?_) fun hq8=>?_
 ·refine SP.jn 4 [0,9,10,37] 45 (.bool ((decide (t6.1<Z1p))||(decide (t6.1>Z2s)))) ?_ ?_
  ·refine gg ?_;exact jb (WH hq8 rfl)
  refine bb 41 (fun Z5P=>?_) fun Z5P=>?_
  ·exact jb (Vi Z5P)
  exact jb (Vj Z5P rfl)
 exact jb (WI hq8)
def XO.f(Z2r:List Int)(Z0O Z1G:Int):Option (Int×Int×Int):=
  (Zv.f Z2r Z0O Z1G 1 1 3).bind fun t6=>some (IntKind.u8.wrap t6.1,t6.2.1,t6.2.2)
theorem XO.ok(Z2r:List Int)(Z0O Z1G:Int)(Z0P:Value)(r:Int×Int×Int)(H:XO.f Z2r Z0O Z1G=some r)(w:World)(hV:Hp)(sV:Sub hV (hp w))(h0:Xb kb hV Z0P Z2r)(b1:Nat)(hA:Hp)(sA:Sub hA (hp w))(dA:Dj hV hA)(hI:(Zl b1 [Z0P,i6 Z0O,i6 Z1G] 279).p hV hA) :
    XL Tryz.prog 222 [pt b1].toArray hA hV w (fun v=>HO.Yr (v=i8 r.1) (HO.Yk [Zl b1 [Z0P,i6 r.2.1,i6 r.2.2] 279])):=by
 have see:YG w hA hV:=⟨sV,dA⟩
 refine XL.of (P:=Tryz.prog) (n:=⟨6,[]⟩) Tryz.func222 rfl ⟨rfl,rfl⟩ rfl (St.K6 (os:=[Zl b1 [Z0P,i6 Z0O,i6 Z1G] 279]) sA (aS h0 (All.nil _)) ⟨hA,em,Dj.WM _,Sub.refl _,Sub.em _,hI,trivial⟩) ?_;have ho:=H;refine gg ?_;obtain⟨t6,hc,ho⟩:=bind_some ho;refine SP.Wy see (caps:=[]) _ Z4U.h rfl rfl rfl rfl (fun w2 hP h1 sub s1 d1 ap hI=>Zv.ok _ _ _ _ _ _ _ _ hc w2 hP sub (ap.get 0 rfl) _ h1 s1 d1 hI) (SP.k0 ?_);clear hc;refine gg ?_;exact sI ho▸rt (sO [0])
inductive Y6.S where
  |start
  |l1 (t8:Int×Int×Int) (x24:Int) (l26:List Int) (x28 x29:Int)
  |l2 (KS:List Int) (t53:Int×Int×Int) (x69:Int) (l71:List Int) (x73 x74:Int)
def Y6.j2(Zx:List Int)(a1:Int)(KS:List Int)(x92 x93:Int)(l95:List Int):Option (Y6.S⊕(Zb×Int×Int)):=
  (Zv.f Zx x92 x93 1 1 2).bind fun t98=>(Zv.f Zx t98.2.1 t98.2.2 1 0 1).bind fun t99=>(Zv.f Zx t99.2.1 t99.2.2 3 0 1048576).bind fun Zcd=>(Zv.f Zx Zcd.2.1 Zcd.2.2 2 0 256).bind fun Z6x=>(Zv.f Zx Z6x.2.1 Z6x.2.2 2 0 1024).bind fun Jz=>if Jz.2.2≠0 then(some (.inr ((⟨[],[],0,false,0,0,0,[]⟩:Zb),0,Jz.2.2)))else(some (.inr ((⟨KS,l95,IntKind.u8.wrap t98.1,decide (t99.1=1),Zcd.1,Z6x.1,Jz.1,[]⟩:Zb),Jz.2.1,0)))
def Y6.j1(Zx:List Int)(a1:Int)(t8:Int×Int×Int)(x47 x48:Int)(KS:List Int):Option (Y6.S⊕(Zb×Int×Int)):=
  (Zv.f Zx x47 x48 1 0 (IntKind.i64.wrap (16-t8.1))).bind fun t53=>if t53.2.2=0 then(some (.inl (.l2 KS t53 0 [] t53.2.1 t53.2.2)))else(Y6.j2 Zx a1 KS t53.2.1 t53.2.2 [])
def Y6.F(Zx:List Int)(a1:Int):Y6.S→Option (Y6.S⊕(Zb×Int×Int))
  | .start=>(Zv.f Zx a1 0 1 0 4).bind fun t8=>if t8.2.2=0 then(some (.inl (.l1 t8 0 [] t8.2.1 t8.2.2)))else(Y6.j1 Zx a1 t8 t8.2.1 t8.2.2 [])
  | .l1 t8 x24 l26 x28 x29=>if x24<t8.1 then((XO.f Zx x28 x29).bind fun t33=>if(l26.length + [t33.1].length)*1≤140737488355328 then(some (.inl (.l1 t8 (IntKind.i64.wrap (x24+1)) (l26 ++ [t33.1]) t33.2.1 t33.2.2)))else none)else(Y6.j1 Zx a1 t8 x28 x29 l26)
  | .l2 KS t53 x69 l71 x73 x74=>if x69<t53.1 then((XO.f Zx x73 x74).bind fun t78=>if(l71.length + [t78.1].length)*1≤140737488355328 then(some (.inl (.l2 KS t53 (IntKind.i64.wrap (x69+1)) (l71 ++ [t78.1]) t78.2.1 t78.2.2)))else none)else(Y6.j2 Zx a1 KS x73 x74 l71)
def Y6.f(Zx:List Int)(a1:Int):Option (Zb×Int×Int):=Zw (Y6.F Zx a1) .start
theorem Y6.ok{Zx a1 Yf}(r)(H:Y6.f Zx a1=some r):Ok Tryz.prog 176 [Yf,i6 a1] [Z9 kb Yf Zx] fun v=>HO.ex fun u0:Value=>HO.ex fun u1:Value=>HO.ex fun u2:Value=>HO.Yr (v=.tuple #[.agg #[u0,u1,i8 r.1.Result,.bool r.1.Reads,i6 r.1.Fuel,i6 r.1.Stack,i6 r.1.Heap,u2],i6 r.2.1,i6 r.2.2]) (HO.Yk [Zg kb 5 u0 r.1.Args,Zg kb 5 u1 r.1.Zk,Zg Z8 43 u2 r.1.Code]):=by
 refine oq 76 Tryz.func176 fun w hV see pb=>?_;obtain⟨m0,o,ho,hr⟩:=rn H;refine al fun b2=>?_;refine sp 0 fun Z8e=>?_;refine bd [Yf,i6 a1,i6 0] ?_;refine bx fun b4=>?_;refine al fun b6=>?_;refine so [1,0,2] ?_;obtain⟨t8,hc,ho⟩:=bind_some ho;refine SP.Wy see (caps:=[]) _ Z4U.h rfl rfl rfl rfl (fun w2 hP h1 sub s1 d1 ap hI=>Zv.ok _ _ _ _ _ _ _ _ hc w2 hP sub (ap.get 0 rfl) _ h1 s1 d1 hI) (SP.k0 ?_);clear hc;refine go ?_;refine ji hr (fun z=>∃x47 x48 KS v51,z (Y6.j1 Zx a1 t8 x47 x48 KS) [(4,pt b2),(7,pt b4),(8,.func (.func 222) #[pt b4] #[]),(9,pt b6),(10,i6 t8.1)] [Zg kb 5 v51 KS,Zl b4 [Yf,i6 x47,i6 x48] 279,Zl b6 [v51,nl,i8 0,.bool false,i6 0,i6 0,i6 0,nl] 34,Zl b2 [nl,nl,i8 0,.bool false,i6 0,i6 0,i6 0,nl] 34]) ?_ ?_;rotate_left
 ·refine gg ?_;refine ci ho (fun ho=>?_) fun ho=>?_;rotate_left
  ·exact mi ho hr (fun _ z=>⟨t8.2.1,t8.2.2,[],nl,z⟩) (fun _ hw=>(nO kb 5 hw))
  refine al fun b9=>?_;refine SP.Z0H (vals:=[pt b9,i6 t8.1,.func (.func 222) #[pt b4] #[]]) (caps:=[]) 26 Tryz.func224 ZjX.h rfl rfl rfl rfl rfl rfl fun a11 Zmt=>gg ?_;refine lo ho hr (fun z=>∃x24 l26 x28 x29 v27,z (.l1 t8 x24 l26 x28 x29) [(0,pt b9),(2,.func (.func 222) #[pt b4] #[]),(7,i6 t8.1),(8,i6 x24)] [Zg kb 5 v27 l26,Zl b9 [v27] 284,Zl b4 [Yf,i6 x28,i6 x29] 279,Zl b6 [nl,nl,i8 0,.bool false,i6 0,i6 0,i6 0,nl] 34,Zl b2 [nl,nl,i8 0,.bool false,i6 0,i6 0,i6 0,nl] 34]) (fun _ z=>⟨0,[],t8.2.1,t8.2.2,nl,z⟩) ?_ (fun _ hw=>(nO kb 5 hw));rintro _ _ _ ⟨x24,l26,x28,x29,v27,m30,o,_,_,ho,hr,h⟩;refine en h ?_;refine ci ho (fun ho=>?_) fun ho=>?_;rotate_left
  ·refine QE.ZeX (m:=⟨26,[]⟩) (rs:=[.tmp 6]) (vs:=[v27]) Zmt rfl Tryz.results224 ⟨Xp.tmp rfl,trivial⟩ (gg ?_);refine sh 0 fun Zmu=>?_;refine st 3 ?_;exact mi ho hr (fun _ z=>⟨x28,x29,l26,v27,z⟩) (sO [0,2,3,4])
  refine dr ?_;refine(DA.phase (fun i=>Nat.ble 0 i&&Nat.blt i 9) (fun w2=>St w em hV [Z9 kb Yf Zx] [Zl b9 [v27] 284,Zl b6 [nl,nl,i8 0,.bool false,i6 0,i6 0,i6 0,nl] 34,Zl b2 [nl,nl,i8 0,.bool false,i6 0,i6 0,i6 0,nl] 34] w2) ?_);refine ts 0 [1,3,4] ?_;refine ts 1 [1,3,4] ?_;refine ts 2 [1,3,4] ?_;refine ts 3 [1,3,4] ?_;refine ts 4 [1,3,4] ?_;refine ts 5 [1,3,4] ?_;refine DT.one 6 rfl (by kernel_rfl) rfl ?_;refine so [2,0,1,3,4] ?_;obtain⟨t33,hc,ho⟩:=bind_some ho;refine SP.rebind (us:=[pt b4]) (caps:=[]) Zbu.h rfl rfl rfl ?_;refine SP.Wy see (caps:=[]) _ Zbu.h rfl rfl rfl rfl (fun w2 hP h1 sub s1 d1 ap hI=>XO.ok Zx x28 x29 _ _ hc w2 hP sub (ap.get 0 rfl) _ h1 s1 d1 hI) (SP.k0 ?_);clear hc;refine gg ?_;refine QE.Vq (fun w2 hw=>(sQ [2,3,4] hw)) ?_;refine DT.one 7 rfl (by kernel_rfl) rfl ?_;refine li kb [t33.1] fun v36=>?_;refine QE.Vq (fun w2 hw=>(sQ [3,4,5] hw)) ?_;refine DT.one 8 rfl (by kernel_rfl) rfl ?_;refine fz 0 ?_;refine ap 1 0 ho fun v38 ho=>?_;refine QE.Vq (fun w2 hw=>(St.V5 [1] rfl (sQ [2,3,4] hw))) ?_;refine dn ?_;refine d1 9 ?_;refine d1 10 ?_;refine d1 (h:=id) 11 ?_;refine sh 1 fun Zmv=>?_;refine st 2 ?_;refine dz ?_;exact lw ho hr (fun _ z=>⟨(wr (x24+1)),(l26 ++ [t33.1]),t33.2.1,t33.2.2,v38,z⟩) (sO [1,2,0,3,4])
 rintro _ _ ⟨x47,x48,KS,v51,m52,o,_,ho,hr,h⟩;refine en h ?_;refine so [1,0,2,3] ?_;obtain⟨t53,hc,ho⟩:=bind_some ho;refine SP.Wy see (caps:=[]) _ Z4U.h rfl rfl rfl rfl (fun w2 hP h1 sub s1 d1 ap hI=>Zv.ok _ _ _ _ _ _ _ _ hc w2 hP sub (ap.get 0 rfl) _ h1 s1 d1 hI) (SP.k0 ?_);clear hc;refine go ?_;refine ji hr (fun z=>∃x92 x93 l95 v96,z (Y6.j2 Zx a1 KS x92 x93 l95) [(4,pt b2),(7,pt b4),(9,pt b6)] [Zg kb 5 v96 l95,Zl b4 [Yf,i6 x92,i6 x93] 279,Zg kb 5 v51 KS,Zl b6 [v51,v96,i8 0,.bool false,i6 0,i6 0,i6 0,nl] 34,Zl b2 [nl,nl,i8 0,.bool false,i6 0,i6 0,i6 0,nl] 34]) ?_ ?_;rotate_left
 ·refine gg ?_;refine ci ho (fun ho=>?_) fun ho=>?_;rotate_left
  ·exact mi ho hr (fun _ z=>⟨t53.2.1,t53.2.2,[],nl,z⟩) (fun _ hw=>(nO kb 5 hw))
  refine al fun b54=>?_;refine SP.Z0H (vals:=[pt b54,i6 t53.1,.func (.func 222) #[pt b4] #[]]) (caps:=[]) 26 Tryz.func224 ZjX.h rfl rfl rfl rfl rfl rfl fun a56 Zmw=>gg ?_;refine lo ho hr (fun z=>∃x69 l71 x73 x74 v72,z (.l2 KS t53 x69 l71 x73 x74) [(0,pt b54),(2,.func (.func 222) #[pt b4] #[]),(7,i6 t53.1),(8,i6 x69)] [Zg kb 5 v72 l71,Zl b54 [v72] 284,Zl b4 [Yf,i6 x73,i6 x74] 279,Zg kb 5 v51 KS,Zl b6 [v51,nl,i8 0,.bool false,i6 0,i6 0,i6 0,nl] 34,Zl b2 [nl,nl,i8 0,.bool false,i6 0,i6 0,i6 0,nl] 34]) (fun _ z=>⟨0,[],t53.2.1,t53.2.2,nl,z⟩) ?_ (fun _ hw=>(nO kb 5 hw));rintro _ _ _ ⟨x69,l71,x73,x74,v72,m75,o,_,_,ho,hr,h⟩;refine en h ?_;refine ci ho (fun ho=>?_) fun ho=>?_;rotate_left
  ·refine QE.ZeX (m:=⟨26,[]⟩) (rs:=[.tmp 6]) (vs:=[v72]) Zmw rfl Tryz.results224 ⟨Xp.tmp rfl,trivial⟩ (gg ?_);refine sh 0 fun Zxu=>?_;refine st 4 ?_;exact mi ho hr (fun _ z=>⟨x73,x74,l71,v72,z⟩) (sO [0,2,3,4,5])
  refine dr ?_;refine(DA.phase (fun i=>Nat.ble 0 i&&Nat.blt i 9) (fun w2=>St w em hV [Z9 kb Yf Zx] [Zl b54 [v72] 284,Zg kb 5 v51 KS,Zl b6 [v51,nl,i8 0,.bool false,i6 0,i6 0,i6 0,nl] 34,Zl b2 [nl,nl,i8 0,.bool false,i6 0,i6 0,i6 0,nl] 34] w2) ?_);refine ts 0 [1,3,4,5] ?_;refine ts 1 [1,3,4,5] ?_;refine ts 2 [1,3,4,5] ?_;refine ts 3 [1,3,4,5] ?_;refine ts 4 [1,3,4,5] ?_;refine ts 5 [1,3,4,5] ?_;refine DT.one 6 rfl (by kernel_rfl) rfl ?_;refine so [2,0,1,3,4,5] ?_;obtain⟨t78,hc,ho⟩:=bind_some ho;refine SP.rebind (us:=[pt b4]) (caps:=[]) Zbu.h rfl rfl rfl ?_;refine SP.Wy see (caps:=[]) _ Zbu.h rfl rfl rfl rfl (fun w2 hP h1 sub s1 d1 ap hI=>XO.ok Zx x73 x74 _ _ hc w2 hP sub (ap.get 0 rfl) _ h1 s1 d1 hI) (SP.k0 ?_);clear hc;refine gg ?_;refine QE.Vq (fun w2 hw=>(sQ [2,3,4,5] hw)) ?_;refine DT.one 7 rfl (by kernel_rfl) rfl ?_;refine li kb [t78.1] fun v81=>?_;refine QE.Vq (fun w2 hw=>(sQ [3,4,5,6] hw)) ?_;refine DT.one 8 rfl (by kernel_rfl) rfl ?_;refine fz 0 ?_;refine ap 1 0 ho fun v83 ho=>?_;refine QE.Vq (fun w2 hw=>(St.V5 [1] rfl (sQ [2,3,4,5] hw))) ?_;refine dn ?_;refine d1 9 ?_;refine d1 10 ?_;refine d1 (h:=id) 11 ?_;refine sh 1 fun Zxv=>?_;refine st 2 ?_;refine dz ?_;exact lw ho hr (fun _ z=>⟨(wr (x69+1)),(l71 ++ [t78.1]),t78.2.1,t78.2.2,v83,z⟩) (sO [1,2,0,3,4,5])
 rintro _ _ ⟨x92,x93,l95,v96,m97,o,_,ho,hr,h⟩;refine en h ?_;refine so [1,0,2,3,4] ?_;obtain⟨t98,hc,ho⟩:=bind_some ho;refine SP.Wy see (caps:=[]) _ Z4U.h rfl rfl rfl rfl (fun w2 hP h1 sub s1 d1 ap hI=>Zv.ok _ _ _ _ _ _ _ _ hc w2 hP sub (ap.get 0 rfl) _ h1 s1 d1 hI) (SP.k0 ?_);clear hc;refine gg ?_;refine st 3 ?_;obtain⟨t99,hc,ho⟩:=bind_some ho;refine SP.Wy see (caps:=[]) _ Z4U.h rfl rfl rfl rfl (fun w2 hP h1 sub s1 d1 ap hI=>Zv.ok _ _ _ _ _ _ _ _ hc w2 hP sub (ap.get 0 rfl) _ h1 s1 d1 hI) (SP.k0 ?_);clear hc;refine gg ?_;refine st 3 ?_;obtain⟨Zcd,hc,ho⟩:=bind_some ho;refine SP.Wy see (caps:=[]) _ Z4U.h rfl rfl rfl rfl (fun w2 hP h1 sub s1 d1 ap hI=>Zv.ok _ _ _ _ _ _ _ _ hc w2 hP sub (ap.get 0 rfl) _ h1 s1 d1 hI) (SP.k0 ?_);clear hc;refine gg ?_;refine st 3 ?_;obtain⟨Z6x,hc,ho⟩:=bind_some ho;refine SP.Wy see (caps:=[]) _ Z4U.h rfl rfl rfl rfl (fun w2 hP h1 sub s1 d1 ap hI=>Zv.ok _ _ _ _ _ _ _ _ hc w2 hP sub (ap.get 0 rfl) _ h1 s1 d1 hI) (SP.k0 ?_);clear hc;refine gg ?_;refine st 3 ?_;obtain⟨Jz,hc,ho⟩:=bind_some ho;refine SP.Wy see (caps:=[]) _ Z4U.h rfl rfl rfl rfl (fun w2 hP h1 sub s1 d1 ap hI=>Zv.ok _ _ _ _ _ _ _ _ hc w2 hP sub (ap.get 0 rfl) _ h1 s1 d1 hI) (SP.k0 ?_);clear hc;refine gg ?_;refine st 3 ?_;refine ci ho (fun ho=>?_) fun ho=>?_
 ·refine dr ?_;refine DA.ph 0 7 ?_;refine DT.tv 0 rfl (Val.Z8K (us:=[]) (ucs:=[]) (cs:=[nl,nl,i8 0,.bool false,i6 0,i6 0,i6 0,nl]) ZtT.h rfl rfl trivial (by rfl)) ?_;refine DT.tk 1 ?_;refine DT.tk 2 ?_;refine DT.tk 3 ?_;refine DT.tk 4 ?_;refine DT.one 5 rfl (by kernel_rfl) rfl ?_;refine st 4 ?_;refine QE.Vq (fun w2 hw=>hw) ?_;refine DT.tk 6 ?_;refine dn ?_;refine d1 7 ?_;refine dz ?_;exact fin ho hr▸rt (fun _ h=>sQ [2,1,0] (nO Z8 43 (nO kb 5 (nO kb 5 h))))
 refine dr ?_;refine(DA.phase (fun i=>Nat.ble 0 i&&Nat.blt i 6) (fun w2=>St w em hV [Z9 kb Yf Zx] [Zl b4 [Yf,i6 Jz.2.1,i6 Jz.2.2] 279,Zg kb 5 v96 l95,Zg kb 5 v51 KS,Zl b6 [v51,v96,i8 (wb t98.1),.bool (decide (t99.1=1)),i6 Zcd.1,i6 Z6x.1,i6 Jz.1,nl] 34] w2) ?_);refine ts 0 [0,1,2,3] ?_;refine ts 1 [0,1,2,3] ?_;refine ts 2 [0,1,2,3] ?_;refine ts 3 [0,1,2,3] ?_;refine ts 4 [0,1,2,3] ?_;refine DT.one 5 rfl (by kernel_rfl) rfl ?_;refine sh (h:=id) 2 fun Zxw=>?_;refine sh 1 fun Zmx=>?_;refine st 4 ?_;refine QE.Vq (fun w2 hw=>(sQ [0,1,2,3] hw)) ?_;refine dn ?_;refine d1 6 ?_;refine d1 7 ?_;refine dz ?_;exact fin ho hr▸rt (fun _ h=>sQ [3,2,0] (nO Z8 43 h))
def TQ.f(Zn:Int):Option Bool:=
  some (decide ((IntKind.i64.wrap Zn)<33))
theorem TQ.ok{Zn}(r)(ho:TQ.f Zn=some r):Ok Tryz.prog 188 [i8 Zn] [] fun v=>HO.pure (v=.bool r):=by
 refine oq 6 Tryz.func188 fun w hV see pb=>?_;exact sI ho▸rt
def Us.j3(Zn:Int)(b3:Bool):Option Int:=
  if b3=true then(some 5)else(if Zn=30 then(some 6)else(if Zn=32 then(some 7)else(if Zn=28 then(some 8)else(some 0))))
def Us.j2(Zn:Int)(b2:Bool):Option Int:=
  if b2=true then(some 3)else(if Zn=22 then(some 4)else(if Zn=26 then(Us.j3 Zn (decide (Zn=26)))else(if Zn=27 then(Us.j3 Zn (decide (Zn=27)))else(Us.j3 Zn (decide (Zn=29))))))
def Us.j1(Zn:Int)(b1:Bool):Option Int:=
  if b1=true then(some 2)else(if Zn=4 then(Us.j2 Zn (decide (Zn=4)))else(Us.j2 Zn (decide (Zn=5))))
def Us.f(Zn:Int):Option Int:=
  if Zn=1 then(some 1)else(if Zn=2 then(Us.j1 Zn (decide (Zn=2)))else(Us.j1 Zn (decide (Zn=3))))
theorem Us.ok{Zn}(r)(ho:Us.f Zn=some r):Ok Tryz.prog 189 [i8 Zn] [] fun v=>HO.pure (v=i6 r):=by
 refine oq 24 Tryz.func189 fun w hV see pb=>?_;refine ci (hf:=id) ho (fun ho=>?_) fun ho=>?_
 ·exact sI ho▸rt
 refine oi r (fun z=>∃b1,z (Us.j1 Zn b1) [(3,i8 Zn),(6,.bool b1)] []) ?_ ?_;rotate_left
 ·refine gg ?_;refine ci ho (fun ho=>?_) fun ho=>?_
  ·exact mo ho (fun _ z=>⟨(decide (Zn=2)),z⟩)
  exact mo ho (fun _ z=>⟨(decide (Zn=3)),z⟩)
 rintro _ _ ⟨b1,ho,h⟩;refine en h ?_;refine cb (hf:=id) ho (fun ho=>?_) fun ho=>?_
 ·exact sI ho▸rt
 refine oi r (fun z=>∃b2,z (Us.j2 Zn b2) [(3,i8 Zn),(9,.bool b2)] []) ?_ ?_;rotate_left
 ·refine gg ?_;refine ci ho (fun ho=>?_) fun ho=>?_
  ·exact mo ho (fun _ z=>⟨(decide (Zn=4)),z⟩)
  exact mo ho (fun _ z=>⟨(decide (Zn=5)),z⟩)
 rintro _ _ ⟨b2,ho,h⟩;refine en h ?_;refine cb ho (fun ho=>?_) fun ho=>?_
 ·exact sI ho▸rt
 refine ci (hf:=id) ho (fun ho=>?_) fun ho=>?_
 ·exact sI ho▸rt
 refine oi r (fun z=>∃b3,z (Us.j3 Zn b3) [(3,i8 Zn),(14,.bool b3)] []) ?_ ?_
 ·rintro _ _ ⟨b3,ho,h⟩;refine en h ?_;refine cb ho (fun ho=>?_) fun ho=>?_
  ·exact sI ho▸rt
  refine ci ho (fun ho=>?_) fun ho=>?_
  ·exact sI ho▸rt
  refine ci ho (fun ho=>?_) fun ho=>?_
  ·exact sI ho▸rt
  refine ci ho (fun ho=>?_) fun ho=>?_
  ·exact sI ho▸rt
  exact sI ho▸rt
 refine gg ?_;refine ci ho (fun ho=>?_) fun ho=>?_
 ·exact mo ho (fun _ z=>⟨(decide (Zn=26)),z⟩)
 refine ci ho (fun ho=>?_) fun ho=>?_
 ·exact mo ho (fun _ z=>⟨(decide (Zn=27)),z⟩)
 exact mo ho (fun _ z=>⟨(decide (Zn=29)),z⟩)
def Vx.f(Zn:Int):Option (Int×Int):=
  (TQ.f Zn).bind fun t1=>if(!t1)=true then(some (0,(-1)))else((Us.f Zn).bind fun t2=>(elt XM t2).bind fun x5=>some (x5.e0,x5.e1))
theorem Vx.ok{Zn}(r)(ho:Vx.f Zn=some r):Ok Tryz.prog 129 [i8 Zn] [Xi ZY 0 XM] fun v=>HO.pure (v=.tuple #[i6 r.1,i6 r.2]):=by
 refine oq 16 Tryz.func129 fun w hV see pb=>?_;refine kv TQ.ok ho fun t1 ho=>?_;refine cb ho (fun ho=>?_) fun ho=>?_
 ·exact sI ho▸rt
 refine kv Us.ok ho fun t2 ho=>?_;obtain⟨x5,hx,ho⟩:=Yu ho;refine SP.Zc3 see 0 rfl Tryz.underlying246 rfl Zpc.h hx.1 hx.2 rfl rfl rfl rfl (fun p3=>?_);clear hx;refine ld 0 ?_;refine al fun b6=>?_;refine st 0 ?_;refine dr ?_;refine DA.ph 0 5 ?_;refine DT.tv 0 rfl (Val.Zgf (off2:=0) Tryz.underlying245 V4.h (by decide) rfl rfl rfl) ?_;refine DT.tk 1 ?_;refine DT.tv 2 rfl (Val.Zgf (off2:=1) Tryz.underlying245 V4.h (by decide) rfl rfl rfl) ?_;refine DT.tk 3 ?_;refine DT.tk 4 ?_;refine dn ?_;refine d1 5 ?_;refine dz ?_;exact sI ho▸rt
def JY.f(Xf:Int):Option Bool:=
  (Vx.f Xf).bind fun t1=>some (decide (t1.2>0))
theorem JY.ok{Xf}(r)(ho:JY.f Xf=some r):Ok Tryz.prog 186 [i8 Xf] [Xi ZY 0 XM] fun v=>HO.pure (v=.bool r):=by
 refine oq 12 Tryz.func186 fun w hV see pb=>?_;refine kv Vx.ok ho fun t1 ho=>?_;exact sI ho▸rt
def Z1P.f(Vd:Z7):Option Bool:=
  (Vx.f Vd.Op).bind fun t3=>some (((decide (Vd.A≥t3.1))&&(decide (Vd.A≤t3.2)))&&(decide (Vd.B=0)))
theorem Z1P.ok{Vd}(r)(ho:Z1P.f Vd=some r):Ok Tryz.prog 68 [.agg #[i8 Vd.Op,i6 Vd.A,i6 Vd.B]] [Xi ZY 0 XM] fun v=>HO.pure (v=.bool r):=by
 refine oq 26 Tryz.func68 fun w hV see pb=>?_;refine bx fun b1=>?_;refine kv Vx.ok ho fun t3 ho=>?_;refine SP.jn 5 [1] 20 (.bool ((decide (Vd.A≥t3.1))&&(decide (Vd.A≤t3.2)))) ?_ ?_
 ·refine gg ?_;refine SP.jn 4 [] 25 (.bool (((decide (Vd.A≥t3.1))&&(decide (Vd.A≤t3.2)))&&(decide (Vd.B=0)))) ?_ ?_
  ·refine gg ?_;exact sI ho▸rt
  refine bb 21 (fun VP=>?_) fun VP=>?_
  ·exact jb (WH VP rfl)
  exact jb (WI VP)
 refine bb 15 (fun UF=>?_) fun UF=>?_
 ·exact jb (WH UF rfl)
 exact jb (WI UF)
inductive Wq.S where
  |start
  |l1 (t11:Int×Int×Int) (Tk x62:Int) (l64:List Z7)
def Wq.j1(Zx:List Int)(a1:Int)(t11:Int×Int×Int)(Tk:Int)(l64:List Z7)(t68:Int×Int×Int)(x88 x89:Int):Option (Wq.S⊕((List Z7)×Int×Int)):=
  (Z1P.f (⟨IntKind.u8.wrap t68.1,x88,0⟩:Z7)).bind fun t91=>if(!t91)=true then(some (.inr ([],0,40)))else(if(l64.length + [(⟨IntKind.u8.wrap t68.1,x88,0⟩:Z7)].length)*24≤140737488355328 then(some (.inl (.l1 t11 (IntKind.i64.wrap (Tk+1)) x89 (l64 ++ [(⟨IntKind.u8.wrap t68.1,x88,0⟩:Z7)]))))else none)
def Wq.F(Zx:List Int)(a1:Int):Wq.S→Option (Wq.S⊕((List Z7)×Int×Int))
  | .start=>(Xc.f Zx a1 1).bind fun t11=>if t11.2.2≠0 then(some (.inr ([],0,t11.2.2)))else(if(!((decide (t11.1>0))&&(decide (t11.1≤200))))=true then(some (.inr ([],0,40)))else(some (.inl (.l1 t11 0 t11.2.1 []))))
  | .l1 t11 Tk x62 l64=>if Tk<t11.1 then((Xc.f Zx x62 1).bind fun t68=>if t68.2.2≠0 then(some (.inr ([],0,t68.2.2)))else((TQ.f (IntKind.u8.wrap t68.1)).bind fun t75=>if(!t75)=true then(some (.inr ([],0,40)))else((JY.f (IntKind.u8.wrap t68.1)).bind fun t81=>if t81=true then((Xc.f Zx t68.2.1 2).bind fun t83=>if t83.2.2≠0 then(some (.inr ([],0,t83.2.2)))else(Wq.j1 Zx a1 t11 Tk l64 t68 t83.1 t83.2.1))else(Wq.j1 Zx a1 t11 Tk l64 t68 0 t68.2.1))))else(some (.inr (l64,x62,0)))
def Wq.f(Zx:List Int)(a1:Int):Option ((List Z7)×Int×Int):=Zw (Wq.F Zx a1) .start
theorem Wq.ok(Zx:List Int)(a1:Int)(Yf:Value)  (r:(List Z7)×Int×Int)(H:Wq.f Zx a1=some r)(w:World)(hV:Hp)(sV:Sub hV (hp w))(h0:Xb kb hV Yf Zx)(h1:(Xi ZY 0 XM).p hV) :
    XL Tryz.prog 177 [Yf,i6 a1].toArray em hV w (fun v=>HO.ex fun u0:Value=>HO.Yr (v=.tuple #[u0,i6 r.2.1,i6 r.2.2]) (HO.Yk [Zg Z8 43 u0 r.1])):=by
 have see:YG w em hV:=⟨sV,Dj.WM _⟩
 refine XL.ofP (P:=Tryz.prog) (n:=⟨54,[]⟩) Tryz.func177 rfl ⟨rfl,rfl⟩ rfl (St.begin (aS h0 (All.cons (x:=Xi ZY 0 XM) h1 (All.nil _)))) ?_;obtain⟨m0,o,ho,hr⟩:=rn H;refine gg ?_;refine al fun b2=>?_;refine al fun b4=>?_;refine al fun b6=>?_;refine SP.defer rfl rfl rfl rfl (gg ?_);refine sp 0 fun Z8e=>?_;refine bd [Yf,i6 a1] ?_;refine bx fun b8=>?_;refine SP.Z7q (vals:=[pt b8,i6 1]) (caps:=[]) 32 Tryz.func226 Zf2.h rfl rfl rfl rfl rfl rfl fun a10 Zgn=>gg ?_;refine dr ?_;refine DA.ph 0 9 ?_;refine DT.tk 0 ?_;refine DT.tk 1 ?_;refine DT.tk 2 ?_;refine DT.tk 3 ?_;refine DT.tk 4 ?_;refine DT.tk 5 ?_;refine DT.tk 6 ?_;refine DT.tk 7 ?_;refine DT.tk 8 ?_;refine dn ?_;refine d1 9 ?_;obtain⟨t11,hc,ho⟩:=bind_some ho;refine SP.Z05 see (caps:=[]) (.tuple #[i6 t11.1,i6 t11.2.1,i6 t11.2.2]) Z3h.h rfl rfl rfl rfl (fun w2 hP hs sub ap=>Xc.ok _ _ _ _ _ hc w2 hP sub (ap.get 0 rfl)) ?_;clear hc;refine gg ?_;refine d1 10 ?_;refine DA.ph 11 16 ?_;refine DT.tk 11 ?_;refine DT.tk 12 ?_;refine DT.tk 13 ?_;refine DT.tk 14 ?_;refine DT.tk 15 ?_;refine dn ?_;refine d1 16 ?_;refine dz ?_;refine ci ho (fun ho=>?_) fun ho=>?_
 ·refine bd [i6 t11.2.2] ?_;refine SP.val (Val.iface Tryz.underlying287 rfl rfl) rfl rfl rfl ?_;refine SP.panic rfl rfl (gg ?_);refine QE.Z9P (m:=⟨32,[]⟩) Zgn (gg ?_);refine QE.Z7r (caps:=[pt b2,pt b4,pt b6]) 6 3 Tryz.func225 Z5O.h rfl rfl rfl rfl rfl fun a12 Zmy=>?_;refine CP.seq ?_;refine CP.region ?_;refine SP.val (Val.move rfl) rfl rfl rfl ?_;refine SP.val (Val.cast (v :=.bool true) (Val.Z9Q Tryz.underlying20 rfl rfl) rfl) rfl rfl rfl (gg ?_);refine CP.W9 rfl rfl (gg ?_);refine SP.val (Val.Z48 Tryz.underlying287 rfl rfl) rfl rfl rfl (gg ?_);refine al fun b13=>?_;refine st 0 ?_;refine CP.K4 rfl rfl (gg ?_);refine dr ?_;refine DA.ph 0 4 ?_;refine DT.tk 0 ?_;refine DT.tk 1 ?_;refine DT.one 2 rfl (by kernel_rfl) rfl ?_;refine st 4 ?_;refine QE.Vq (fun w2 hw=>hw) ?_;refine DT.one 3 rfl (by kernel_rfl) rfl ?_;refine st 3 ?_;refine QE.Vq (fun w2 hw=>hw) ?_;refine dn ?_;refine d1 4 ?_;refine st 2 ?_;refine dz ?_;obtain rfl:=fin ho hr;exact QE.Z1l (.inr rfl) Zmy Tryz.results225 (rs:=[.cell 4 32,.cell 5 3,.cell 6 28]) (vs:=[nl,i6 0,i6 t11.2.2]) Tryz.results177 ⟨Xp.cell1 4 rfl rfl Tryz.underlying32 rfl,Xp.cell1 3 rfl rfl Tryz.underlying3 rfl,Xp.cell1 2 rfl rfl Tryz.underlying28 rfl,trivial⟩ (fun w2 h=>St.done (fun a b p s=>⟨_,rfl,s⟩) (sQ [0] (nO Z8 43 h)))
 refine st 0 ?_;refine QE.Ziw (m:=⟨32,[]⟩) (rs:=[.tmp 4]) (vs:=[i6 t11.1]) Zgn rfl Tryz.results226 ⟨Xp.tmp rfl,trivial⟩ (gg ?_);refine SP.jn 3 [4,5,6,7,8] 22 (.bool ((decide (t11.1>0))&&(decide (t11.1≤200)))) ?_ ?_;rotate_left
 ·refine bb 19 (fun Z24=>?_) fun Z24=>?_
  ·exact jb (WH Z24 rfl)
  exact jb (WI Z24)
 refine SP.Z7q (vals:=[.bool ((decide (t11.1>0))&&(decide (t11.1≤200)))]) (caps:=[]) 6 Tryz.func227 Zf3.h rfl rfl rfl rfl rfl rfl fun a18 Zgo=>gg ?_;refine cb ho (fun ho=>?_) fun ho=>?_
 ·refine bd [i6 40] ?_;refine SP.val (Val.iface Tryz.underlying287 rfl rfl) rfl rfl rfl ?_;refine SP.panic rfl rfl ?_;refine QE.Z9P (m:=⟨6,[]⟩) Zgo (gg ?_);refine QE.Z7r (caps:=[pt b2,pt b4,pt b6]) 6 3 Tryz.func225 Z5O.h rfl rfl rfl rfl rfl fun a19 Zmz=>?_;refine CP.seq ?_;refine CP.region ?_;refine SP.val (Val.move rfl) rfl rfl rfl ?_;refine SP.val (Val.cast (v :=.bool true) (Val.Z9Q Tryz.underlying20 rfl rfl) rfl) rfl rfl rfl (gg ?_);refine CP.W9 rfl rfl (gg ?_);refine SP.val (Val.Z48 Tryz.underlying287 rfl rfl) rfl rfl rfl (gg ?_);refine al fun b20=>?_;refine st 0 ?_;refine CP.K4 rfl rfl (gg ?_);refine dr ?_;refine DA.ph 0 4 ?_;refine DT.tk 0 ?_;refine DT.tk 1 ?_;refine DT.one 2 rfl (by kernel_rfl) rfl ?_;refine st 4 ?_;refine QE.Vq (fun w2 hw=>hw) ?_;refine DT.one 3 rfl (by kernel_rfl) rfl ?_;refine st 3 ?_;refine QE.Vq (fun w2 hw=>hw) ?_;refine dn ?_;refine d1 4 ?_;refine st 2 ?_;refine dz ?_;obtain rfl:=fin ho hr;exact QE.Z1l (.inr rfl) Zmz Tryz.results225 (rs:=[.cell 4 32,.cell 5 3,.cell 6 28]) (vs:=[nl,i6 0,i6 40]) Tryz.results177 ⟨Xp.cell1 4 rfl rfl Tryz.underlying32 rfl,Xp.cell1 3 rfl rfl Tryz.underlying3 rfl,Xp.cell1 2 rfl rfl Tryz.underlying28 rfl,trivial⟩ (fun w2 h=>St.done (fun a b p s=>⟨_,rfl,s⟩) (sQ [0] (nO Z8 43 h)))
 refine QE.endP (m:=⟨6,[]⟩) (rs:=[]) (vs:=[]) Zgo rfl Tryz.results227 trivial (gg ?_);refine lo ho hr (fun z=>∃Tk x62 l64 v65,z (.l1 t11 Tk x62 l64) [(4,pt b2),(5,pt b4),(6,pt b6),(7,pt b8),(24,i6 t11.1),(25,i6 Tk)] [Zg Z8 43 v65 l64,Zl b8 [Yf,i6 x62] 291,Zl b6 [i6 0] 28,Zl b4 [i6 0] 3,Zl b2 [v65] 32]) (fun _ z=>⟨0,t11.2.1,[],nl,z⟩) ?_ (fun _ hw=>(nO Z8 43 hw)) (hb:=pe [Z9 kb Yf Zx,Xi ZY 0 XM]);rintro _ _ _ ⟨Tk,x62,l64,v65,m66,o,_,_,ho,hr,h⟩;refine en h ?_;refine ci ho (fun ho=>?_) fun ho=>?_;rotate_left
 ·refine CP.np ?_;refine dr ?_;refine DA.ph 0 6 ?_;refine DT.tk 0 ?_;refine DT.tk 1 ?_;refine DT.tk 2 ?_;refine DT.tk 3 ?_;refine DT.tk 4 ?_;refine DT.one 5 rfl (by kernel_rfl) rfl ?_;refine sh 0 fun Zxx=>?_;refine st 4 ?_;refine QE.Vq (fun w2 hw=>hw) ?_;refine dn ?_;refine d1 6 ?_;refine st 3 ?_;refine d1 7 ?_;refine st 2 ?_;refine dz ?_;refine QE.npN (gg ?_);refine QE.Zp7 (caps:=[pt b2,pt b4,pt b6]) 6 3 Tryz.func225 Z5O.h rfl rfl rfl rfl rfl fun ZBL Zl4=>?_;refine CP.seq ?_;refine CP.region ?_;refine SP.val (Val.move rfl) rfl rfl rfl ?_;refine SP.val (Val.cast (v :=.bool false) (Val.ZtP Tryz.underlying20 rfl) rfl) rfl rfl rfl (gg ?_);refine CP.K4 rfl rfl (gg ?_);obtain rfl:=fin ho hr;exact QE.Z1l (.inr rfl) Zl4 Tryz.results225 (rs:=[.cell 4 32,.cell 5 3,.cell 6 28]) (vs:=[v65,i6 x62,i6 0]) Tryz.results177 ⟨Xp.cell1 4 rfl rfl Tryz.underlying32 rfl,Xp.cell1 3 rfl rfl Tryz.underlying3 rfl,Xp.cell1 2 rfl rfl Tryz.underlying28 rfl,trivial⟩ (fun w2 h=>St.done (fun a b p s=>⟨_,rfl,s⟩) (sQ [0] h))
 refine SP.Z7q (vals:=[pt b8,i6 1]) (caps:=[]) 32 Tryz.func226 Zf2.h rfl rfl rfl rfl rfl rfl fun a67 Zgp=>gg ?_;refine dr ?_;refine DA.ph 0 9 ?_;refine DT.tk 0 ?_;refine DT.tk 1 ?_;refine DT.tk 2 ?_;refine DT.tk 3 ?_;refine DT.tk 4 ?_;refine DT.tk 5 ?_;refine DT.tk 6 ?_;refine DT.tk 7 ?_;refine DT.tk 8 ?_;refine dn ?_;refine d1 9 ?_;obtain⟨t68,hc,ho⟩:=bind_some ho;refine SP.Z05 see (caps:=[]) (.tuple #[i6 t68.1,i6 t68.2.1,i6 t68.2.2]) Z3h.h rfl rfl rfl rfl (fun w2 hP hs sub ap=>Xc.ok _ _ _ _ _ hc w2 hP sub (ap.get 0 rfl)) ?_;clear hc;refine gg ?_;refine d1 10 ?_;refine DA.ph 11 16 ?_;refine DT.tk 11 ?_;refine DT.tk 12 ?_;refine DT.tk 13 ?_;refine DT.tk 14 ?_;refine DT.tk 15 ?_;refine dn ?_;refine d1 16 ?_;refine dz ?_;refine ci ho (fun ho=>?_) fun ho=>?_
 ·refine bd [i6 t68.2.2] ?_;refine SP.val (Val.iface Tryz.underlying287 rfl rfl) rfl rfl rfl ?_;refine SP.panic rfl rfl (gg ?_);refine QE.Z9P (m:=⟨32,[]⟩) Zgp (gg ?_);refine QE.Z7r (caps:=[pt b2,pt b4,pt b6]) 6 3 Tryz.func225 Z5O.h rfl rfl rfl rfl rfl fun a69 ZmA=>?_;refine CP.seq ?_;refine CP.region ?_;refine SP.val (Val.move rfl) rfl rfl rfl ?_;refine SP.val (Val.cast (v :=.bool true) (Val.Z9Q Tryz.underlying20 rfl rfl) rfl) rfl rfl rfl (gg ?_);refine CP.W9 rfl rfl (gg ?_);refine SP.val (Val.Z48 Tryz.underlying287 rfl rfl) rfl rfl rfl (gg ?_);refine al fun b70=>?_;refine st 0 ?_;refine CP.K4 rfl rfl (gg ?_);refine dr ?_;refine(DA.phase (fun i=>Nat.ble 0 i&&Nat.blt i 4) (fun w2=>St w em hV [Z9 kb Yf Zx,Xi ZY 0 XM] [Zl b70 [i6 t68.2.2] 287,Zg Z8 43 v65 l64,Zl b8 [Yf,i6 x62] 291,Zl b6 [i6 0] 28,Zl b4 [i6 0] 3] w2) ?_);refine ts 0 [0,1,2,3,4] ?_;refine ts 1 [0,1,2,3,4] ?_;refine DT.one 2 rfl (by kernel_rfl) rfl ?_;refine st 5 ?_;refine QE.Vq (fun w2 hw=>(sQ [0,1,2,3,4] hw)) ?_;refine DT.one 3 rfl (by kernel_rfl) rfl ?_;refine st 4 ?_;refine QE.Vq (fun w2 hw=>(sQ [0,1,2,3,4] hw)) ?_;refine dn ?_;refine d1 4 ?_;refine st 3 ?_;refine dz ?_;obtain rfl:=fin ho hr;exact QE.Z1l (.inr rfl) ZmA Tryz.results225 (rs:=[.cell 4 32,.cell 5 3,.cell 6 28]) (vs:=[nl,i6 0,i6 t68.2.2]) Tryz.results177 ⟨Xp.cell1 5 rfl rfl Tryz.underlying32 rfl,Xp.cell1 4 rfl rfl Tryz.underlying3 rfl,Xp.cell1 3 rfl rfl Tryz.underlying28 rfl,trivial⟩ (fun w2 h=>St.done (fun a b p s=>⟨_,rfl,s⟩) (sQ [0] (nO Z8 43 h)))
 refine st 1 ?_;refine QE.Ziw (m:=⟨32,[]⟩) (rs:=[.tmp 4]) (vs:=[i6 t68.1]) Zgp rfl Tryz.results226 ⟨Xp.tmp rfl,trivial⟩ (gg ?_);refine bd [i8 (wb t68.1),i6 0,i6 0] ?_;refine al fun b73=>?_;refine st 0 ?_;refine kv TQ.ok ho fun t75 ho=>?_;refine SP.Z7q (vals:=[.bool t75]) (caps:=[]) 6 Tryz.func227 Zf3.h rfl rfl rfl rfl rfl rfl fun a76 Zgr=>gg ?_;refine cb ho (fun ho=>?_) fun ho=>?_
 ·refine bd [i6 40] ?_;refine SP.val (Val.iface Tryz.underlying287 rfl rfl) rfl rfl rfl ?_;refine SP.panic rfl rfl ?_;refine QE.Z9P (m:=⟨6,[]⟩) Zgr (gg ?_);refine QE.Z7r (caps:=[pt b2,pt b4,pt b6]) 6 3 Tryz.func225 Z5O.h rfl rfl rfl rfl rfl fun a77 ZmB=>?_;refine CP.seq ?_;refine CP.region ?_;refine SP.val (Val.move rfl) rfl rfl rfl ?_;refine SP.val (Val.cast (v :=.bool true) (Val.Z9Q Tryz.underlying20 rfl rfl) rfl) rfl rfl rfl (gg ?_);refine CP.W9 rfl rfl (gg ?_);refine SP.val (Val.Z48 Tryz.underlying287 rfl rfl) rfl rfl rfl (gg ?_);refine al fun b78=>?_;refine st 0 ?_;refine CP.K4 rfl rfl (gg ?_);refine dr ?_;refine(DA.phase (fun i=>Nat.ble 0 i&&Nat.blt i 4) (fun w2=>St w em hV [Z9 kb Yf Zx,Xi ZY 0 XM] [Zl b78 [i6 40] 287,Zl b73 [i8 (wb t68.1),i6 0,i6 0] 43,Zg Z8 43 v65 l64,Zl b8 [Yf,i6 t68.2.1] 291,Zl b6 [i6 0] 28,Zl b4 [i6 0] 3] w2) ?_);refine ts 0 [0,1,2,3,4,5] ?_;refine ts 1 [0,1,2,3,4,5] ?_;refine DT.one 2 rfl (by kernel_rfl) rfl ?_;refine st 6 ?_;refine QE.Vq (fun w2 hw=>(sQ [0,1,2,3,4,5] hw)) ?_;refine DT.one 3 rfl (by kernel_rfl) rfl ?_;refine st 5 ?_;refine QE.Vq (fun w2 hw=>(sQ [0,1,2,3,4,5] hw)) ?_;refine dn ?_;refine d1 4 ?_;refine st 4 ?_;refine dz ?_;obtain rfl:=fin ho hr;exact QE.Z1l (.inr rfl) ZmB Tryz.results225 (rs:=[.cell 4 32,.cell 5 3,.cell 6 28]) (vs:=[nl,i6 0,i6 40]) Tryz.results177 ⟨Xp.cell1 6 rfl rfl Tryz.underlying32 rfl,Xp.cell1 5 rfl rfl Tryz.underlying3 rfl,Xp.cell1 4 rfl rfl Tryz.underlying28 rfl,trivial⟩ (fun w2 h=>St.done (fun a b p s=>⟨_,rfl,s⟩) (sQ [0] (nO Z8 43 h)))
 refine QE.endP (m:=⟨6,[]⟩) (rs:=[]) (vs:=[]) Zgr rfl Tryz.results227 trivial ?_;refine go ?_;refine ji hr (fun z=>∃x88 x89,z (Wq.j1 Zx a1 t11 Tk l64 t68 x88 x89) [(4,pt b2),(5,pt b4),(6,pt b6),(7,pt b8),(9,pt b73),(24,i6 t11.1),(25,i6 Tk)] [Zl b73 [i8 (wb t68.1),i6 x88,i6 0] 43,Zg Z8 43 v65 l64,Zl b8 [Yf,i6 x89] 291,Zl b6 [i6 0] 28,Zl b4 [i6 0] 3,Zl b2 [v65] 32]) ?_ ?_ (hb:=pe [Z9 kb Yf Zx,Xi ZY 0 XM])
 ·rintro _ _ ⟨x88,x89,m90,o,_,ho,hr,h⟩;refine en h ?_;refine kv Z1P.ok ho fun t91 ho=>?_;refine SP.Z7q (vals:=[.bool t91]) (caps:=[]) 6 Tryz.func227 Zf3.h rfl rfl rfl rfl rfl rfl fun a92 Zgs=>gg ?_;refine cb ho (fun ho=>?_) fun ho=>?_;rotate_left
  ·refine QE.endP (m:=⟨6,[]⟩) (rs:=[]) (vs:=[]) Zgs rfl Tryz.results227 trivial (gg ?_);refine li (h:=fun _=>id) Z8 [(⟨wb t68.1,x88,0⟩:Z7)] fun v97=>?_;refine fz 0 ?_;refine ap (h:=fun _=>id) 1 0 ho fun v99 ho=>?_;refine sh 1 fun ZxB=>?_;refine st 5 ?_;exact lw ho hr (fun _ z=>⟨(wr (Tk+1)),x89,(l64 ++ [(⟨wb t68.1,x88,0⟩:Z7)]),v99,z⟩) (sO [1,2,3,4,5])
  refine bd [i6 40] ?_;refine SP.val (Val.iface Tryz.underlying287 rfl rfl) rfl rfl rfl ?_;refine SP.panic rfl rfl ?_;refine QE.Z9P (m:=⟨6,[]⟩) Zgs (gg ?_);refine QE.Z7r (caps:=[pt b2,pt b4,pt b6]) 6 3 Tryz.func225 Z5O.h rfl rfl rfl rfl rfl fun a93 ZmC=>?_;refine CP.seq ?_;refine CP.region ?_;refine SP.val (Val.move rfl) rfl rfl rfl ?_;refine SP.val (Val.cast (v :=.bool true) (Val.Z9Q Tryz.underlying20 rfl rfl) rfl) rfl rfl rfl (gg ?_);refine CP.W9 rfl rfl (gg ?_);refine SP.val (Val.Z48 Tryz.underlying287 rfl rfl) rfl rfl rfl (gg ?_);refine al fun b94=>?_;refine st 0 ?_;refine CP.K4 rfl rfl (gg ?_);refine dr ?_;refine(DA.phase (fun i=>Nat.ble 0 i&&Nat.blt i 4) (fun w2=>St w em hV [Z9 kb Yf Zx,Xi ZY 0 XM] [Zl b94 [i6 40] 287,Zl b73 [i8 (wb t68.1),i6 x88,i6 0] 43,Zg Z8 43 v65 l64,Zl b8 [Yf,i6 x89] 291,Zl b6 [i6 0] 28,Zl b4 [i6 0] 3] w2) ?_);refine ts 0 [0,1,2,3,4,5] ?_;refine ts 1 [0,1,2,3,4,5] ?_;refine DT.one 2 rfl (by kernel_rfl) rfl ?_;refine st 6 ?_;refine QE.Vq (fun w2 hw=>(sQ [0,1,2,3,4,5] hw)) ?_;refine DT.one 3 rfl (by kernel_rfl) rfl ?_;refine st 5 ?_;refine QE.Vq (fun w2 hw=>(sQ [0,1,2,3,4,5] hw)) ?_;refine dn ?_;refine d1 4 ?_;refine st 4 ?_;refine dz ?_;obtain rfl:=fin ho hr;exact QE.Z1l (.inr rfl) ZmC Tryz.results225 (rs:=[.cell 4 32,.cell 5 3,.cell 6 28]) (vs:=[nl,i6 0,i6 40]) Tryz.results177 ⟨Xp.cell1 6 rfl rfl Tryz.underlying32 rfl,Xp.cell1 5 rfl rfl Tryz.underlying3 rfl,Xp.cell1 4 rfl rfl Tryz.underlying28 rfl,trivial⟩ (fun w2 h=>St.done (fun a b p s=>⟨_,rfl,s⟩) (sQ [0] (nO Z8 43 h)))
 refine gg ?_;refine kv JY.ok ho fun t81 ho=>?_;refine cb ho (fun ho=>?_) fun ho=>?_;rotate_left
 ·exact mi ho hr (fun _ z=>⟨0,t68.2.1,z⟩)
 refine SP.Z7q (vals:=[pt b8,i6 2]) (caps:=[]) 32 Tryz.func226 Zf2.h rfl rfl rfl rfl rfl rfl fun a82 Zgt=>gg ?_;refine dr ?_;refine DA.ph 0 9 ?_;refine DT.tk 0 ?_;refine DT.tk 1 ?_;refine DT.tk 2 ?_;refine DT.tk 3 ?_;refine DT.tk 4 ?_;refine DT.tk 5 ?_;refine DT.tk 6 ?_;refine DT.tk 7 ?_;refine DT.tk 8 ?_;refine dn ?_;refine d1 9 ?_;obtain⟨t83,hc,ho⟩:=bind_some ho;refine SP.Z05 see (caps:=[]) (.tuple #[i6 t83.1,i6 t83.2.1,i6 t83.2.2]) Z3h.h rfl rfl rfl rfl (fun w2 hP hs sub ap=>Xc.ok _ _ _ _ _ hc w2 hP sub (ap.get 0 rfl)) ?_;clear hc;refine gg ?_;refine d1 10 ?_;refine DA.ph 11 16 ?_;refine DT.tk 11 ?_;refine DT.tk 12 ?_;refine DT.tk 13 ?_;refine DT.tk 14 ?_;refine DT.tk 15 ?_;refine dn ?_;refine d1 16 ?_;refine dz ?_;refine ci ho (fun ho=>?_) fun ho=>?_;rotate_left
 ·refine st 2 ?_;refine QE.Ziw (m:=⟨32,[]⟩) (rs:=[.tmp 4]) (vs:=[i6 t83.1]) Zgt rfl Tryz.results226 ⟨Xp.tmp rfl,trivial⟩ (gg ?_);refine st 0 ?_;exact mi ho hr (fun _ z=>⟨t83.1,t83.2.1,z⟩)
 refine bd [i6 t83.2.2] ?_;refine SP.val (Val.iface Tryz.underlying287 rfl rfl) rfl rfl rfl ?_;refine SP.panic rfl rfl (gg ?_);refine QE.Z9P (m:=⟨32,[]⟩) Zgt (gg ?_);refine QE.Z7r (caps:=[pt b2,pt b4,pt b6]) 6 3 Tryz.func225 Z5O.h rfl rfl rfl rfl rfl fun a84 ZmD=>?_;refine CP.seq ?_;refine CP.region ?_;refine SP.val (Val.move rfl) rfl rfl rfl ?_;refine SP.val (Val.cast (v :=.bool true) (Val.Z9Q Tryz.underlying20 rfl rfl) rfl) rfl rfl rfl (gg ?_);refine CP.W9 rfl rfl (gg ?_);refine SP.val (Val.Z48 Tryz.underlying287 rfl rfl) rfl rfl rfl (gg ?_);refine al fun b85=>?_;refine st 0 ?_;refine CP.K4 rfl rfl (gg ?_);refine dr ?_;refine(DA.phase (fun i=>Nat.ble 0 i&&Nat.blt i 4) (fun w2=>St w em hV [Z9 kb Yf Zx,Xi ZY 0 XM] [Zl b85 [i6 t83.2.2] 287,Zl b73 [i8 (wb t68.1),i6 0,i6 0] 43,Zg Z8 43 v65 l64,Zl b8 [Yf,i6 t68.2.1] 291,Zl b6 [i6 0] 28,Zl b4 [i6 0] 3] w2) ?_);refine ts 0 [0,1,2,3,4,5] ?_;refine ts 1 [0,1,2,3,4,5] ?_;refine DT.one 2 rfl (by kernel_rfl) rfl ?_;refine st 6 ?_;refine QE.Vq (fun w2 hw=>(sQ [0,1,2,3,4,5] hw)) ?_;refine DT.one 3 rfl (by kernel_rfl) rfl ?_;refine st 5 ?_;refine QE.Vq (fun w2 hw=>(sQ [0,1,2,3,4,5] hw)) ?_;refine dn ?_;refine d1 4 ?_;refine st 4 ?_;refine dz ?_;obtain rfl:=fin ho hr;exact QE.Z1l (.inr rfl) ZmD Tryz.results225 (rs:=[.cell 4 32,.cell 5 3,.cell 6 28]) (vs:=[nl,i6 0,i6 t83.2.2]) Tryz.results177 ⟨Xp.cell1 6 rfl rfl Tryz.underlying32 rfl,Xp.cell1 5 rfl rfl Tryz.underlying3 rfl,Xp.cell1 4 rfl rfl Tryz.underlying28 rfl,trivial⟩ (fun w2 h=>St.done (fun a b p s=>⟨_,rfl,s⟩) (sQ [0] (nO Z8 43 h)))
def Z09.f(Zx:List Int)(a1:Int):Option (Zb×Int×Int):=
  (Y6.f Zx a1).bind fun t4=>if t4.2.2≠0 then(some ((⟨[],[],0,false,0,0,0,[]⟩:Zb),0,t4.2.2))else((Wq.f Zx t4.2.1).bind fun t16=>some ((⟨t4.1.Args,t4.1.Zk,t4.1.Result,t4.1.Reads,t4.1.Fuel,t4.1.Stack,t4.1.Heap,t16.1⟩:Zb),t16.2.1,t16.2.2))
theorem Z09.ok{Zx a1 Yf}(r)(ho:Z09.f Zx a1=some r):Ok Tryz.prog 118 [Yf,i6 a1] [Z9 kb Yf Zx,Xi ZY 0 XM] fun v=>HO.ex fun u0:Value=>HO.ex fun u1:Value=>HO.ex fun u2:Value=>HO.Yr (v=.tuple #[.agg #[u0,u1,i8 r.1.Result,.bool r.1.Reads,i6 r.1.Fuel,i6 r.1.Stack,i6 r.1.Heap,u2],i6 r.2.1,i6 r.2.2]) (HO.Yk [Zg kb 5 u0 r.1.Args,Zg kb 5 u1 r.1.Zk,Zg Z8 43 u2 r.1.Code]):=by
 refine oq 31 Tryz.func118 fun w hV see pb=>?_;refine al fun b2=>?_;refine k3 Y6.ok ho fun t4 ho v5 v6 v7=>?_;refine al (h:=fun _=>id) fun b11=>?_;refine sh (h:=id) 1 fun Z8W=>?_;refine sh (h:=id) 2 fun Z8X=>?_;refine sh 3 fun Z8Y=>?_;refine st 0 ?_;refine ci ho (fun ho=>?_) fun ho=>?_
 ·refine bd [nl,nl,i8 0,.bool false,i6 0,i6 0,i6 0,nl] ?_;refine st 4 ?_;exact sI ho▸rt (fun _ h=>sQ [2,1,0] (nO Z8 43 (nO kb 5 (nO kb 5 h))))
 obtain⟨t16,hc,ho⟩:=bind_some ho;refine SP.Ti see (caps:=[]) _ Zph.h rfl rfl rfl rfl (fun w2 hP hs sub ap=>Wq.ok _ _ _ _ hc w2 hP sub (ap.get 0 rfl) (ap.get 1 rfl)) (SP.k1 fun v17=>?_);clear hc;refine gg ?_;refine sh 0 fun ZmE=>?_;refine st 1 ?_;refine sh (h:=id) 2 fun Z8W=>?_;refine sh (h:=id) 3 fun Z8X=>?_;refine sh 0 fun ZmE=>?_;refine st 5 ?_;exact sI ho▸rt (sO [2,3,0])
inductive ZQ.S where
  |start
  |l1 (t22 t29:(List Zp)×Int×Int) (t34:Int×Int×Int) (U9 x69 x70:Int) (l72:List Zb)
def ZQ.j3(Zx:List Int)(t22:(List Zp)×Int×Int)(Z59:List Zp)(Z5a:List Zb)(Zcg:Int):Option (ZQ.S⊕(Zc×Int)):=
  some (.inr ((⟨t22.1,Z59,Z5a,Zcg⟩:Zc),0))
def ZQ.j2(Zx:List Int)(t22:(List Zp)×Int×Int)(Z3F:Int)(Z59:List Zp)(Z5a:List Zb)(Z8f:Int):Option (ZQ.S⊕(Zc×Int)):=
  if Z3F≠0 then(some (.inr ((⟨[],[],[],0⟩:Zc),Z3F)))else(if Z8f=255 then(ZQ.j3 Zx t22 Z59 Z5a (-1))else(ZQ.j3 Zx t22 Z59 Z5a Z8f))
def ZQ.F(Zx:List Int):ZQ.S→Option (ZQ.S⊕(Zc×Int))
  | .start=>if(Zx.length:Int)>2000 then(some (.inr ((⟨[],[],[],0⟩:Zc),3)))else((Vr.f Zx 0).bind fun t22=>if((decide (t22.2.2=0))&&(!(decide ((t22.1.length:Int)≤4))))=true then(ZQ.j2 Zx t22 80 [] [] 0)else(if t22.2.2≠0 then(ZQ.j2 Zx t22 t22.2.2 [] [] 0)else((Vr.f Zx t22.2.1).bind fun t29=>if t29.2.2≠0 then(ZQ.j2 Zx t22 t29.2.2 t29.1 [] 0)else((Xc.f Zx t29.2.1 1).bind fun t34=>if((decide (t34.2.2=0))&&(!(decide (t34.1≤16))))=true then(ZQ.j2 Zx t22 80 t29.1 [] 0)else(if t34.2.2≠0 then(ZQ.j2 Zx t22 t34.2.2 t29.1 [] 0)else(some (.inl (.l1 t22 t29 t34 0 t34.2.2 t34.2.1 []))))))))
  | .l1 t22 t29 t34 U9 x69 x70 l72=>if((decide (U9<t34.1))&&(decide (x69=0)))=true then((Z09.f Zx x70).bind fun t79=>if(l72.length + [t79.1].length)*104≤140737488355328 then(some (.inl (.l1 t22 t29 t34 (IntKind.i64.wrap (U9+1)) t79.2.2 t79.2.1 (l72 ++ [t79.1]))))else none)else(if x69≠0 then(ZQ.j2 Zx t22 x69 t29.1 l72 0)else((Xc.f Zx x70 1).bind fun Vv=>if((decide (Vv.2.2=0))&&(!((decide (Vv.1<t34.1))||(decide (Vv.1=255)))))=true then(ZQ.j2 Zx t22 80 t29.1 l72 Vv.1)else(if((decide (Vv.2.2=0))&&(!(decide (Vv.2.1=(Zx.length:Int)))))=true then(ZQ.j2 Zx t22 80 t29.1 l72 Vv.1)else(if Vv.2.2≠0 then(ZQ.j2 Zx t22 Vv.2.2 t29.1 l72 Vv.1)else(ZQ.j2 Zx t22 Vv.2.2 t29.1 l72 Vv.1)))))
def ZQ.f(Zx:List Int):Option (Zc×Int):=Zw (ZQ.F Zx) .start
theorem ZQ.ok{Zx Yf}(r)(H:ZQ.f Zx=some r):Ok Tryz.prog 59 [Yf] [Z9 kb Yf Zx,Xi ZY 0 XM,Xi ki 1 Z3E] fun v=>HO.ex fun u0:Value=>HO.ex fun u1:Value=>HO.ex fun u2:Value=>HO.Yr (v=.tuple #[.agg #[u0,u1,u2,i6 r.1.Zo],i6 r.2]) (HO.Yk [Zg Z4 100 u0 r.1.ZA,Zg Z4 100 u1 r.1.Pool,Vf YI 34 u2 r.1.Methods]):=by
 refine oq 41 Tryz.func59 fun w hV see pb=>?_;obtain⟨m0,o,ho,hr⟩:=rn H;refine sp 0 fun Z8e=>?_;refine SP.box (cs:=[Yf]) rfl rfl rfl (Z4S Z8e) (fun b2=>?_);refine al fun b4=>?_;refine CP.scope 0 (fun _ _=>False) rfl (fun _ _ _ h=>h) (fun _ _ h=>h.elim) (gg ?_);refine ci ho (fun ho=>?_) fun ho=>?_
 ·refine bd [nl,nl,nl,i6 0] ?_;refine st 0 ?_;refine QE.Z5k rfl ?_;exact fin ho hr▸rt (fun _ h=>sQ [2,1,0] (St.Tc (Vf.nil YI 34) (nO Z4 100 (nO Z4 100 h))))
 refine al fun b9=>?_;refine al fun b11=>?_;refine al fun b13=>?_;refine st 1 ?_;refine st 0 ?_;refine al fun b15=>?_;refine al fun b17=>?_;refine st 0 ?_;refine al fun b19=>?_;refine st 0 ?_;refine CP.label ?_;refine go ?_;refine ji hr (fun z=>∃t22 Z3F Z59 Z5a Z8f v23 Zch v117,z (ZQ.j2 Zx t22 Z3F Z59 Z5a Z8f) [(2,pt b4),(4,pt b9),(7,pt b15)] [Vf YI 34 v117 Z5a,Zg Z4 100 Zch Z59,Zg Z4 100 v23 t22.1,Zl b15 [i6 Z3F] 28,Zl b9 [v23,Zch,v117,i6 Z8f] 25,Zl b4 [nl,nl,nl,i6 0] 25]) ?_ ?_ (hb:=pe [Xi ZY 0 XM,Xi ki 1 Z3E])
 ·rintro _ _ ⟨t22,Z3F,Z59,Z5a,Z8f,v23,Zch,v117,ZBM,o,_,ho,hr,h⟩;refine en h ?_;refine ci (hf:=id) ho (fun ho=>?_) fun ho=>?_
  ·refine dr ?_;refine DA.ph 0 3 ?_;refine DT.tv 0 rfl (Val.Z8K (us:=[]) (ucs:=[]) (cs:=[nl,nl,nl,i6 0]) ZtS.h rfl rfl trivial (by rfl)) ?_;refine DT.tk 1 ?_;refine DT.one 2 rfl (by kernel_rfl) rfl ?_;refine st 5 ?_;refine QE.Vq (fun w2 hw=>hw) ?_;refine dn ?_;refine d1 3 ?_;refine dz ?_;refine QE.Z5k rfl ?_;exact fin ho hr▸rt (fun _ h=>sQ [2,1,0] (St.Tc (Vf.nil YI 34) (nO Z4 100 (nO Z4 100 h))))
  refine go ?_;refine ji hr (fun z=>∃Zcg,z (ZQ.j3 Zx t22 Z59 Z5a Zcg) [(2,pt b4),(4,pt b9)] [Vf YI 34 v117 Z5a,Zg Z4 100 Zch Z59,Zg Z4 100 v23 t22.1,Zl b9 [v23,Zch,v117,i6 Zcg] 25,Zl b4 [nl,nl,nl,i6 0] 25]) ?_ ?_ (hb:=pe [Xi ZY 0 XM,Xi ki 1 Z3E])
  ·rintro _ _ ⟨Zcg,ZBN,o,_,ho,hr,h⟩;refine en h ?_;refine sh (h:=id) 2 fun ZmF=>?_;refine sh (h:=id) 1 fun ZwF=>?_;refine SP.have (fun w2 hw=>Vf.shape (St.own 0 rfl see.sub see.dj hw)) (fun ZwG=>?_);refine st 4 ?_;refine QE.Z5k rfl ?_;exact fin ho hr▸rt (sO [2,1,0])
  refine gg ?_;refine ci ho (fun ho=>?_) fun ho=>?_
  ·refine st 4 ?_;exact mi ho hr (fun _ z=>⟨(-1),z⟩) (sO [0,1,2,4,5])
  exact mi ho hr (fun _ z=>⟨Z8f,z⟩) (sO [0,1,2,4,5])
 refine gg ?_;refine bd [.func (.func 113) #[] #[pt b2,pt b11,pt b9,pt b15,pt b19],.func (.func 115) #[] #[pt b2,pt b11,pt b9,pt b15],.func (.func 116) #[] #[pt b17,pt b13,pt b19],.func (.func 117) #[] #[pt b13,pt b15,pt b2,pt b11,pt b9],.func (.func 119) #[] #[pt b17,pt b9,pt b19,pt b13,pt b11,pt b2]] ?_;refine CP.rounds 9 ?_;refine LP.step (gg ?_);refine CP.W9 rfl rfl (gg ?_);refine SP.val (Val.Z1m 0 Tryz.underlying170 Tryz.underlying1 rfl sz1.h rfl rfl rfl rfl) rfl rfl rfl (gg ?_);refine SP.Z0H (vals:=[]) (caps:=[pt b2,pt b11,pt b9,pt b15,pt b19]) 19 Tryz.func113 Zpt.h rfl rfl rfl rfl rfl rfl fun a21 Zgu=>gg ?_;refine k1 Vr.ok ho fun t22 ho v23=>?_;refine sh 0 fun ZmF=>?_;refine st 6 ?_;refine st 5 ?_;refine st 3 ?_;refine SP.Z0H (vals:=[.bool (decide ((t22.1.length:Int)≤4))]) (caps:=[pt b15]) 9 Tryz.func112 Z8T.h rfl rfl rfl rfl rfl rfl fun a25 Zgv=>gg ?_;refine sj 3 [1] 8 ho ?_ ?_;rotate_left
 ·refine bb 5 (fun Z8g=>?_) fun Z8g=>?_
  ·exact jb (WH Z8g rfl)
  exact jb (WI Z8g)
 refine gg ?_;refine cb ho (fun ho=>?_) fun ho=>?_
 ·refine st 3 ?_;refine QE.Z0E (m:=⟨9,[]⟩) (rs:=[]) (vs:=[]) Zgv rfl Tryz.results112 trivial (gg ?_);refine QE.Z0E (m:=⟨19,[]⟩) (rs:=[]) (vs:=[]) Zgu rfl Tryz.results113 trivial (gg ?_);refine CP.W9 rfl rfl (gg ?_);exact mi ho hr (fun _ z=>⟨t22,80,[],[],0,v23,nl,nl,z⟩) (fun _ hw=>(sQ [0,1,2,5,8,9] (St.Tc (Vf.nil YI 34) (nO Z4 100 hw))))
 refine QE.Z0E (m:=⟨9,[]⟩) (rs:=[]) (vs:=[]) Zgv rfl Tryz.results112 trivial (gg ?_);refine QE.Z0E (m:=⟨19,[]⟩) (rs:=[]) (vs:=[]) Zgu rfl Tryz.results113 trivial (gg ?_);refine ci ho (fun ho=>?_) fun ho=>?_
 ·exact mi ho hr (fun _ z=>⟨t22,t22.2.2,[],[],0,v23,nl,nl,z⟩) (fun _ hw=>(sQ [0,1,2,5,8,9] (St.Tc (Vf.nil YI 34) (nO Z4 100 hw))))
 refine QE.round ?_;refine LP.step (gg ?_);refine CP.W9 rfl rfl (gg ?_);refine SP.val (Val.Z1m 1 Tryz.underlying170 Tryz.underlying1 rfl sz1.h rfl rfl rfl rfl) rfl rfl rfl (gg ?_);refine SP.Z0H (vals:=[]) (caps:=[pt b2,pt b11,pt b9,pt b15]) 12 Tryz.func115 Zpu.h rfl rfl rfl rfl rfl rfl fun a28 ZmG=>gg ?_;refine k1 Vr.ok ho fun t29 ho v30=>?_;refine sh 0 fun Zgw=>?_;refine st 7 ?_;refine st 6 ?_;refine st 4 ?_;refine QE.Z0E (m:=⟨12,[]⟩) (rs:=[]) (vs:=[]) ZmG rfl Tryz.results115 trivial (gg ?_);refine ci ho (fun ho=>?_) fun ho=>?_
 ·exact mi ho hr (fun _ z=>⟨t22,t29.2.2,t29.1,[],0,v23,v30,nl,z⟩) (fun _ hw=>(sQ [0,1,2,5,8,9] (St.Tc (Vf.nil YI 34) hw)))
 refine QE.round ?_;refine LP.step (gg ?_);refine CP.W9 rfl rfl (gg ?_);refine SP.val (Val.Z1m 2 Tryz.underlying170 Tryz.underlying1 rfl sz1.h rfl rfl rfl rfl) rfl rfl rfl (gg ?_);refine SP.Z0H (vals:=[]) (caps:=[pt b17,pt b13,pt b19]) 9 Tryz.func116 Zpv.h rfl rfl rfl rfl rfl rfl fun a32 Zgx=>gg ?_;refine SP.Z0H (vals:=[]) (caps:=[pt b2,pt b11,pt b15]) 12 Tryz.func110 ZjW.h rfl rfl rfl rfl rfl rfl fun a33 ZmH=>gg ?_;obtain⟨t34,hc,ho⟩:=bind_some ho;refine SP.Z05 see (caps:=[]) (.tuple #[i6 t34.1,i6 t34.2.1,i6 t34.2.2]) Z3h.h rfl rfl rfl rfl (fun w2 hP hs sub ap=>Xc.ok _ _ _ _ _ hc w2 hP sub (ap.get 0 rfl)) ?_;clear hc;refine gg ?_;refine st 6 ?_;refine st 4 ?_;refine QE.ZeX (m:=⟨12,[]⟩) (rs:=[.tmp 3]) (vs:=[i6 t34.1]) ZmH rfl Tryz.results110 ⟨Xp.tmp rfl,trivial⟩ ?_;refine st 5 ?_;refine SP.Z0H (vals:=[.bool (decide (t34.1≤16))]) (caps:=[pt b15]) 9 Tryz.func112 Z8T.h rfl rfl rfl rfl rfl rfl fun a35 Zgy=>gg ?_;refine sj 3 [1] 8 ho ?_ ?_;rotate_left
 ·refine bb 5 (fun Z4p=>?_) fun Z4p=>?_
  ·exact jb (WH Z4p rfl)
  exact jb (WI Z4p)
 refine gg ?_;refine cb ho (fun ho=>?_) fun ho=>?_
 ·refine st 4 ?_;refine QE.Z0E (m:=⟨9,[]⟩) (rs:=[]) (vs:=[]) Zgy rfl Tryz.results112 trivial (gg ?_);refine QE.Z0E (m:=⟨9,[]⟩) (rs:=[]) (vs:=[]) Zgx rfl Tryz.results116 trivial (gg ?_);refine CP.W9 rfl rfl (gg ?_);exact mi ho hr (fun _ z=>⟨t22,80,t29.1,[],0,v23,v30,nl,z⟩) (fun _ hw=>(sQ [0,1,2,5,8,9] (St.Tc (Vf.nil YI 34) hw)))
 refine QE.Z0E (m:=⟨9,[]⟩) (rs:=[]) (vs:=[]) Zgy rfl Tryz.results112 trivial (gg ?_);refine QE.Z0E (m:=⟨9,[]⟩) (rs:=[]) (vs:=[]) Zgx rfl Tryz.results116 trivial (gg ?_);refine ci ho (fun ho=>?_) fun ho=>?_
 ·exact mi ho hr (fun _ z=>⟨t22,t34.2.2,t29.1,[],0,v23,v30,nl,z⟩) (fun _ hw=>(sQ [0,1,2,5,8,9] (St.Tc (Vf.nil YI 34) hw)))
 refine QE.round ?_;refine LP.step (gg ?_);refine CP.W9 rfl rfl (gg ?_);refine SP.val (Val.Z1m 3 Tryz.underlying170 Tryz.underlying1 rfl sz1.h rfl rfl rfl rfl) rfl rfl rfl (gg ?_);refine SP.Z0H (vals:=[]) (caps:=[pt b13,pt b15,pt b2,pt b11,pt b9]) 29 Tryz.func117 Zpw.h rfl rfl rfl rfl rfl rfl fun a38 ZmI=>gg ?_;refine lo ho hr (fun z=>∃U9 x69 x70 l72 v73,z (.l1 t22 t29 t34 U9 x69 x70 l72) [(0,pt b13),(1,pt b15),(2,pt b2),(3,pt b11),(4,pt b9),(5,i6 U9)] [Vf YI 34 v73 l72,Zg Z4 100 v30 t29.1,Zg Z4 100 v23 t22.1,Zl b19 [.func (.func 112) #[] #[pt b15]] 165,Zl b17 [.func (.func 110) #[] #[pt b2,pt b11,pt b15]] 164,Zl b15 [i6 x69] 28,Zl b13 [i6 t34.1] 3,Zl b11 [i6 x70] 3,Zl b9 [v23,v30,v73,i6 0] 25,Zl b4 [nl,nl,nl,i6 0] 25,Zl b2 [Yf] 31]) (fun _ z=>⟨0,t34.2.2,t34.2.1,[],nl,z⟩) ?_ (fun _ hw=>(St.Tc (Vf.nil YI 34) hw));rintro _ _ _ ⟨U9,x69,x70,l72,v73,m74,o,_,_,ho,hr,h⟩;refine en h ?_;refine sj 3 [0,1,2,3,4,5] 13 ho ?_ ?_;rotate_left
 ·refine bb 10 (fun ZiC=>?_) fun ZiC=>?_
  ·exact jb (WH ZiC rfl)
  exact jb (WI ZiC)
 refine gg ?_;refine cb ho (fun ho=>?_) fun ho=>?_
 ·refine al fun b77=>?_;refine k3 Z09.ok ho fun t79 ho v80 v81 v82=>?_;refine sh (h:=id) 0 fun Zgz=>?_;refine sh (h:=id) 1 fun ZgA=>?_;refine sh 2 fun ZgB=>?_;refine st 3 ?_;refine st 11 ?_;refine st 9 ?_;refine sh (h:=id) 0 fun Zgz=>?_;refine sh (h:=id) 1 fun ZgA=>?_;refine sh 2 fun ZgB=>?_;refine SP.lit (k:=Z55 8) (xs:=[[v80,v81,i8 t79.1.Result,.bool t79.1.Reads,i6 t79.1.Fuel,i6 t79.1.Stack,i6 t79.1.Heap,v82]]) (vs:=[.agg #[v80,v81,i8 t79.1.Result,.bool t79.1.Reads,i6 t79.1.Fuel,i6 t79.1.Stack,i6 t79.1.Heap,v82]]) (cells:=[v80,v81,i8 t79.1.Result,.bool t79.1.Reads,i6 t79.1.Fuel,i6 t79.1.Stack,i6 t79.1.Heap,v82]) Tryz.underlying23 Zbt.h rfl rfl rfl rfl rfl rfl rfl rfl (fun _ ap=>⟨[v80,v81,i8 t79.1.Result,.bool t79.1.Reads,i6 t79.1.Fuel,i6 t79.1.Stack,i6 t79.1.Heap,v82],_,rfl,⟨rfl,rfl,VD Zgz (VD ZgA (VD rfl (VD rfl (VD rfl (VD rfl (VD rfl (VD ZgB (rfl))))))))⟩,rfl⟩) rfl rfl rfl (fun v86=>?_);refine SP.imp (fun w2 hw=>St.ZlF (k:=YI) (c:=[v80,v81,i8 t79.1.Result,.bool t79.1.Reads,i6 t79.1.Fuel,i6 t79.1.Stack,i6 t79.1.Heap,v82]) (x0:=t79.1) [Zg kb 5 v80 t79.1.Args,Zg kb 5 v81 t79.1.Zk,Zg Z8 43 v82 t79.1.Code] (sQ [0,1,2,3,4,5,6,7,8,9,10,11,12,13,14,15] hw) (fun a b q=>⟨_,_,_,rfl,q⟩)) ?_;refine so [2,0,1,3,4,5,6,7,8,9,10,11,12] ?_;obtain⟨hb,ho⟩:=Xn ho;refine SP.ZdS see Tryz.underlying23 Zbt.h rfl rfl hb rfl rfl rfl rfl rfl (fun v88=>?_);clear hb;refine gg ?_;refine SP.have (fun w2 hw=>Vf.shape (St.own 0 rfl see.sub see.dj hw)) (fun ZmJ=>?_);refine st 9 ?_;exact lw ho hr (fun _ z=>⟨(wr (U9+1)),t79.2.2,t79.2.1,(l72 ++ [t79.1]),v88,z⟩) (sO [0,2,3,4,5,6,7,8,9,10,11])
 refine QE.Z0E (m:=⟨29,[]⟩) (rs:=[]) (vs:=[]) ZmI rfl Tryz.results117 trivial (gg ?_);refine ci ho (fun ho=>?_) fun ho=>?_
 ·exact mi ho hr (fun _ z=>⟨t22,x69,t29.1,l72,0,v23,v30,v73,z⟩) (sO [0,1,2,5,8,9])
 refine QE.round ?_;refine LP.step (gg ?_);refine CP.W9 rfl rfl (gg ?_);refine SP.val (Val.Z1m 4 Tryz.underlying170 Tryz.underlying1 rfl sz1.h rfl rfl rfl rfl) rfl rfl rfl (gg ?_);refine SP.Z0H (vals:=[]) (caps:=[pt b17,pt b9,pt b19,pt b13,pt b11,pt b2]) 26 Tryz.func119 Zpx.h rfl rfl rfl rfl rfl rfl fun a90 Zci=>gg ?_;refine SP.Z0H (vals:=[]) (caps:=[pt b2,pt b11,pt b15]) 12 Tryz.func110 ZjW.h rfl rfl rfl rfl rfl rfl fun a91 ZmK=>gg ?_;obtain⟨Vv,hc,ho⟩:=bind_some ho;refine SP.Z05 see (caps:=[]) (.tuple #[i6 Vv.1,i6 Vv.2.1,i6 Vv.2.2]) Z3h.h rfl rfl rfl rfl (fun w2 hP hs sub ap=>Xc.ok _ _ _ _ _ hc w2 hP sub (ap.get 0 rfl)) ?_;clear hc;refine gg ?_;refine st 7 ?_;refine st 5 ?_;refine QE.ZeX (m:=⟨12,[]⟩) (rs:=[.tmp 3]) (vs:=[i6 Vv.1]) ZmK rfl Tryz.results110 ⟨Xp.tmp rfl,trivial⟩ (gg ?_);refine st 8 ?_;refine SP.jn 4 [2,4,5,9] 18 (.bool ((decide (Vv.1<t34.1))||(decide (Vv.1=255)))) ?_ ?_;rotate_left
 ·refine bb 14 (fun Zcj=>?_) fun Zcj=>?_
  ·exact jb (Vi Zcj)
  exact jb (Vj Zcj rfl)
 refine SP.Z0H (vals:=[.bool ((decide (Vv.1<t34.1))||(decide (Vv.1=255)))]) (caps:=[pt b15]) 9 Tryz.func112 Z8T.h rfl rfl rfl rfl rfl rfl fun a95 ZgC=>gg ?_;refine sj 3 [1] 8 ho ?_ ?_;rotate_left
 ·refine bb 5 (fun ZiD=>?_) fun ZiD=>?_
  ·exact jb (WH ZiD rfl)
  exact jb (WI ZiD)
 refine gg ?_;refine cb ho (fun ho=>?_) fun ho=>?_
 ·refine st 5 ?_;refine QE.Z0E (m:=⟨9,[]⟩) (rs:=[]) (vs:=[]) ZgC rfl Tryz.results112 trivial (gg ?_);refine SP.Z0H (vals:=[.bool (decide (Vv.2.1=(Zx.length:Int)))]) (caps:=[pt b15]) 9 Tryz.func112 Z8T.h rfl rfl rfl rfl rfl rfl fun a98 ZmL=>gg ?_;refine CP.K4 rfl rfl (gg ?_);refine QE.Z0E (m:=⟨9,[]⟩) (rs:=[]) (vs:=[]) ZmL rfl Tryz.results112 trivial (gg ?_);refine QE.Z0E (m:=⟨26,[]⟩) (rs:=[]) (vs:=[]) Zci rfl Tryz.results119 trivial (gg ?_);refine CP.W9 rfl rfl (gg ?_);exact mi ho hr (fun _ z=>⟨t22,80,t29.1,l72,Vv.1,v23,v30,v73,z⟩) (sO [0,1,2,5,8,9])
 refine QE.Z0E (m:=⟨9,[]⟩) (rs:=[]) (vs:=[]) ZgC rfl Tryz.results112 trivial (gg ?_);refine SP.Z0H (vals:=[.bool (decide (Vv.2.1=(Zx.length:Int)))]) (caps:=[pt b15]) 9 Tryz.func112 Z8T.h rfl rfl rfl rfl rfl rfl fun a99 ZgD=>gg ?_;refine sj 3 [1] 8 ho ?_ ?_;rotate_left
 ·refine bb 5 (fun Zf4=>?_) fun Zf4=>?_
  ·exact jb (WH Zf4 rfl)
  exact jb (WI Zf4)
 refine gg ?_;refine cb ho (fun ho=>?_) fun ho=>?_
 ·refine st 5 ?_;refine QE.Z0E (m:=⟨9,[]⟩) (rs:=[]) (vs:=[]) ZgD rfl Tryz.results112 trivial (gg ?_);refine QE.Z0E (m:=⟨26,[]⟩) (rs:=[]) (vs:=[]) Zci rfl Tryz.results119 trivial (gg ?_);refine CP.W9 rfl rfl (gg ?_);exact mi ho hr (fun _ z=>⟨t22,80,t29.1,l72,Vv.1,v23,v30,v73,z⟩) (sO [0,1,2,5,8,9])
 refine QE.Z0E (m:=⟨9,[]⟩) (rs:=[]) (vs:=[]) ZgD rfl Tryz.results112 trivial (gg ?_);refine QE.Z0E (m:=⟨26,[]⟩) (rs:=[]) (vs:=[]) Zci rfl Tryz.results119 trivial (gg ?_);refine ci ho (fun ho=>?_) fun ho=>?_
 ·exact mi ho hr (fun _ z=>⟨t22,Vv.2.2,t29.1,l72,Vv.1,v23,v30,v73,z⟩) (sO [0,1,2,5,8,9])
 refine QE.round ?_;refine LP.step (gg ?_);refine CP.K4 rfl rfl (gg ?_);exact mi ho hr (fun _ z=>⟨t22,Vv.2.2,t29.1,l72,Vv.1,v23,v30,v73,z⟩) (sO [0,1,2,5,8,9])
def J7.f  : Option Unit:=
  some ()
theorem J7.ok(r)(ho:J7.f  = some r):Ok Tryz.prog 88 [] [] fun v=>HO.pure (v=.agg #[.func (.func 10) #[] #[],.func (.func 142) #[] #[],.func (.func 143) #[] #[],.func (.func 14) #[] #[],.func (.func 15) #[] #[],.func (.func 16) #[] #[]]):=by
 refine oq 8 Tryz.func88 fun w hV see pb=>?_;refine al fun b1=>?_;refine bd [.func (.func 10) #[] #[]] ?_;refine bd [.func (.func 142) #[] #[]] ?_;refine bd [.func (.func 143) #[] #[]] ?_;refine bd [.func (.func 14) #[] #[]] ?_;refine bd [.func (.func 15) #[] #[]] ?_;refine bd [.func (.func 16) #[] #[]] ?_;refine bd [.func (.func 10) #[] #[],.func (.func 142) #[] #[],.func (.func 143) #[] #[],.func (.func 14) #[] #[],.func (.func 15) #[] #[],.func (.func 16) #[] #[]] ?_;refine st 0 ?_;obtain rfl:=sI ho;exact rt
def Ua.j1(Xx:Zp)(b12:Bool):Option Bool:=
  some b12
def Ua.f(Xx:Zp):Option Bool:=
  (Jg.f Xx.A Xx.B).bind fun t3=>(JX.f Xx.A).bind fun t6=>if(Xx.Kind==t6.Kind&&(Xx.A==t6.A&&(Xx.B==t6.B)))=true then(Ua.j1 Xx true)else(if t3.2=true then(Ua.j1 Xx (Xx.Kind==t3.1.Kind&&(Xx.A==t3.1.A&&(Xx.B==t3.1.B))))else(Ua.j1 Xx false))
theorem Ua.ok{Xx}(r)(ho:Ua.f Xx=some r):Ok Tryz.prog 231 [.agg #[i8 Xx.Kind,i6 Xx.A,i6 Xx.B]] [] fun v=>HO.pure (v=.bool r):=by
 refine oq 26 Tryz.func231 fun w hV see pb=>?_;refine bx fun b1=>?_;refine kv Jg.ok ho fun t3 ho=>?_;refine al fun b4=>?_;refine st (h:=id) 0 ?_;refine go ?_;refine oi r (fun z=>∃b12,z (Ua.j1 Xx b12) [(2,.bool b12)] []) ?_ ?_
 ·rintro _ _ ⟨b12,ho,h⟩;refine en h ?_;exact sI ho▸rt
 refine dr ?_;obtain⟨t6,hc7,ho⟩:=bind_some ho;refine DA.ph 0 4 ?_;refine tk 0 ?_;refine DT.tk 1 ?_;refine DT.tk 2 ?_;refine DT.one 3 rfl (by kernel_rfl) rfl ?_;refine SP.Z05 see (caps:=[]) (.agg #[i8 t6.Kind,i6 t6.A,i6 t6.B]) Zpg.h rfl rfl rfl rfl (fun w2 hP hs sub ap=>JX.ok (Xf:=Xx.A) _ hc7 w2 hP sub (All.nil _)) (gg ?_);refine QE.Vq (fun w2 hw=>hw) ?_;refine dn ?_;refine d1 4 ?_;refine SP.val (Val.Zih (by kernel_rfl) (fun w2=>Z8S 9998 w2 Xx.Kind t6.Kind Xx.A t6.A Xx.B t6.B) rfl rfl) rfl rfl rfl (gg ?_);refine d1 5 ?_;rcases TD ho with ⟨hc,ho⟩|⟨hc,ho⟩
 ·have hg8:=hc;clear hc;refine DA.is (d:=18) (b:=true) rfl hg8 ?_;refine DA.ph 6 7 ?_;refine DT.tn 6 ?_;refine dn ?_;refine DA.ph 7 8 ?_;refine DT.tn 7 ?_;refine dn ?_;refine DA.ph 8 10 ?_;refine DT.tn 8 ?_;refine DT.tn 9 ?_;refine dn ?_;refine DA.ph 10 11 ?_;refine DT.tn 10 ?_;refine dn ?_;refine DA.ph 11 12 ?_;refine DT.tn 11 ?_;refine dn ?_;refine d1 12 ?_;refine d1 13 ?_;refine dz ?_;exact mo ho (fun _ z=>⟨true,z⟩) (sO [])
 have hg9:=(bf hc)
 clear hc;refine DA.is (d:=18) (b:=false) rfl hg9 ?_;refine d1 6 ?_;refine d1 7 ?_;rcases TD ho with ⟨hc,ho⟩|⟨hc,ho⟩
 ·have ZvH:=hc;clear hc;refine DA.ph 8 10 ?_;refine DT.is (d:=20) (b:=true) rfl ZvH ?_;refine tk 8 ?_;refine tk 9 ?_;refine dn ?_;refine d1 10 ?_;refine SP.val (Val.Zih (by kernel_rfl) (fun w2=>Z8S 9998 w2 Xx.Kind t3.1.Kind Xx.A t3.1.A Xx.B t3.1.B) rfl rfl) rfl rfl rfl (gg ?_);refine d1 11 ?_;refine d1 12 ?_;refine d1 13 ?_;refine dz ?_;exact mo ho (fun _ z=>⟨(Xx.Kind==t3.1.Kind&&(Xx.A==t3.1.A&&(Xx.B==t3.1.B))),z⟩) (sO [])
 have ZvI:=(bf hc)
 clear hc;refine DA.ph 8 10 ?_;refine DT.is (d:=20) (b:=false) rfl ZvI ?_;refine DT.tn 8 ?_;refine DT.tn 9 ?_;refine dn ?_;refine DA.ph 10 11 ?_;refine DT.tn 10 ?_;refine dn ?_;refine d1 11 ?_;refine d1 12 ?_;refine d1 13 ?_;refine dz ?_;exact mo ho (fun _ z=>⟨false,z⟩) (sO [])
def Z2t.f(Xx:Zp):Option Bool:=
  (Ua.f Xx).bind fun t3=>some (!t3)
theorem Z2t.ok{Xx}(r)(ho:Z2t.f Xx=some r):Ok Tryz.prog 230 [.agg #[i8 Xx.Kind,i6 Xx.A,i6 Xx.B]] [] fun v=>HO.pure (v=.bool r):=by
 refine oq 6 Tryz.func230 fun w hV see pb=>?_;refine bx fun b1=>?_;refine kv Ua.ok ho fun t3 ho=>?_;exact sI ho▸rt
inductive Y9.S where
  |start
  |l1 (x7:Int)
def Y9.F(s_0:List Zp):Y9.S→Option (Y9.S⊕Int)
  | .start=>some (.inl (.l1 0))
  | .l1 x7=>if x7<(s_0.length:Int)then((elt s_0 x7).bind fun Zh=>(Z2t.f Zh).bind fun t12=>if t12=true then(some (.inr x7))else(some (.inl (.l1 (IntKind.i64.wrap (x7+1))))))else(some (.inr (-1)))
def Y9.f(s_0:List Zp):Option Int:=Zw (Y9.F s_0) .start
theorem Y9.ok{s_0 X4}(r)(H:Y9.f s_0=some r):Ok Tryz.prog 251 [X4,.func (.func 230) #[] #[]] [Z9 Z4 X4 s_0] fun v=>HO.pure (v=i6 r):=by
 refine oq 19 Tryz.func251 fun w hV see pb=>?_;obtain⟨m0,o,ho,hr⟩:=rn H;refine lo ho hr (fun z=>∃x7,z (.l1 x7) [(0,X4),(1,.func (.func 230) #[] #[]),(7,i6 (s_0.length:Int)),(8,i6 x7)] []) (fun _ z=>⟨0,z⟩) ?_;rintro _ _ _ ⟨x7,m8,o,_,_,ho,hr,h⟩;refine en h ?_;refine ci ho (fun ho=>?_) fun ho=>?_
 ·refine ip 0 ho fun Zh ho p9=>?_;refine ld 0 ?_;refine kv Z2t.ok ho fun t12 ho=>?_;refine cb ho (fun ho=>?_) fun ho=>?_
  ·exact fin ho hr▸rt
  exact lw ho hr (fun _ z=>⟨(wr (x7+1)),z⟩)
 exact fin ho hr▸rt
def WA.f(s_0:List Zp):Option Bool:=
  (Y9.f s_0).bind fun t2=>some (decide (t2≥0))
theorem WA.ok{s_0 X4}(r)(ho:WA.f s_0=some r):Ok Tryz.prog 229 [X4,.func (.func 230) #[] #[]] [Z9 Z4 X4 s_0] fun v=>HO.pure (v=.bool r):=by
 refine oq 9 Tryz.func229 fun w hV see pb=>?_;refine kv Y9.ok ho fun t2 ho=>?_;exact sI ho▸rt
def Z2Z.f(ZC:List Zp):Option Bool:=
  (if(ZC.length:Int)≤32 then((WA.f ZC).bind fun t4=>some (!t4))else(some false)).bind fun t5=>some t5
theorem Z2Z.ok{ZC Yt}(r)(ho:Z2Z.f ZC=some r):Ok Tryz.prog 182 [Yt] [Z9 Z4 Yt ZC] fun v=>HO.pure (v=.bool r):=by
 refine oq 11 Tryz.func182 fun w hV see pb=>?_;obtain⟨t5,Z8Z,ho⟩:=bind_some ho;refine SP.jn 4 [] 10 (.bool t5) ?_ ?_
 ·clear Z8Z;refine gg ?_;exact sI ho▸rt
 refine bi 6 Z8Z (fun hq3 ho=>?_) fun hq3 ho=>?_
 ·refine kv WA.ok ho fun t4 ho=>?_;obtain rfl:=sI ho;exact jn
 obtain rfl:=sI ho;exact jn
inductive Xg.S where
  |start
  |l1 (l6:List Int) (x8:Int)
def Xg.F(Xf U6:Int):Xg.S→Option (Xg.S⊕(List Int))
  | .start=>if(0:Int)≤U6∧(1:Int)*U6≤281474976710656∧(U6:Int)≤9223372036854775807 then(some (.inl (.l1 (List.replicate (U6:Int).toNat 0:List Int) 0)))else none
  | .l1 l6 x8=>if x8<((List.replicate (U6:Int).toNat 0:List Int).length:Int)then(if 0≤(IntKind.i64.wrap (8*x8))then((elt l6 x8).bind fun Zh=>some (.inl (.l1 (l6.set x8.toNat (IntKind.u8.wrap (Z4j .i64 Xf (IntKind.i64.wrap (8*x8))))) (IntKind.i64.wrap (x8+1)))))else none)else(some (.inr l6))
def Xg.f(Xf U6:Int):Option (List Int):=Zw (Xg.F Xf U6) .start
theorem Xg.ok{Xf U6}(r)(H:Xg.f Xf U6=some r):Ok Tryz.prog 234 [i6 Xf,i6 U6] [] fun v=>HO.ex fun u0:Value=>HO.Yr (v=u0) (HO.Yk [Zg kb 5 u0 r]):=by
 refine oq 24 Tryz.func234 fun w hV see pb=>?_;obtain⟨m0,o,ho,hr⟩:=rn H;obtain⟨hb,ho⟩:=Xn ho;refine SP.ZeQ (k:=kb) (z:=0) Tryz.underlying31 Z5M.h rfl (fun _=>rfl) rfl rfl rfl rfl hb (fun v1=>?_);clear hb;refine gg ?_;refine lo ho hr (fun z=>∃l6 x8 v7,z (.l1 l6 x8) [(0,i6 Xf),(5,v7),(10,i6 ((List.replicate (U6:Int).toNat 0:List Int).length:Int)),(11,i6 x8)] [Zg kb 5 v7 l6]) (fun _ z=>⟨(List.replicate (U6:Int).toNat 0:List Int),0,v1,z⟩) ?_;rintro _ _ _ ⟨l6,x8,v7,m9,o,_,_,ho,hr,h⟩;refine en h ?_;refine ci ho (fun ho=>?_) fun ho=>?_
 ·obtain⟨hz,ho⟩:=Xn ho;refine SP.val (Val.shr hz rfl rfl) rfl rfl rfl ?_;clear hz;refine gg ?_;obtain⟨Zh,Zck,ho⟩:=Yu ho;refine SP.Wo (fun w2 hw=>Zg.whole (St.own 0 rfl see.sub see.dj hw)) Tryz.underlying31 Tj.h Zck.1 Zck.2 rfl rfl rfl rfl (fun p10 Zs0=>?_);refine SP.Z2m (z0:=wb (Z4j .i64 Xf (wr (8*x8)))) (off:=0) (vs:=[i8 (wb (Z4j .i64 Xf (wr (8*x8))))]) see 0 rfl Zck.2 Zs0 rfl rfl Tj.h rfl (fun a cs _ e=>by subst e;rfl) rfl rfl rfl (gg ?_);exact lw ho hr (fun _ z=>⟨(l6.set x8.toNat (wb (Z4j .i64 Xf (wr (8*x8))))),(wr (x8+1)),v7,z⟩)
 exact fin ho hr▸rt (sO [0])
def Z0R.f(Xf:Int):Option (List Int):=
  (Xg.f Xf 8).bind fun t1=>some t1
theorem Z0R.ok{Xf}(r)(ho:Z0R.f Xf=some r):Ok Tryz.prog 232 [i6 Xf] [] fun v=>HO.ex fun u0:Value=>HO.Yr (v=u0) (HO.Yk [Zg kb 5 u0 r]):=by
 refine oq 5 Tryz.func232 fun w hV see pb=>?_;refine k1 Xg.ok ho fun t1 ho v2=>?_;exact sI ho▸rt (sO [0])
def Z1q.f(VH VQ:Int):Option Bool:=
  (if VQ≥0 then((if VH=8 then(some true)else(if 0≤(IntKind.i64.wrap (8*VH))then(some (decide ((Z4j .i64 VQ (IntKind.i64.wrap (8*VH)))=0)))else none)).bind fun t5=>some t5)else(some false)).bind fun t6=>some t6
theorem Z1q.ok{VH VQ}(r)(ho:Z1q.f VH VQ=some r):Ok Tryz.prog 233 [i6 VH,i6 VQ] [] fun v=>HO.pure (v=.bool r):=by
 refine oq 18 Tryz.func233 fun w hV see pb=>?_;obtain⟨t6,ZjZ,ho⟩:=bind_some ho;refine SP.jn 10 [] 17 (.bool t6) ?_ ?_
 ·clear ZjZ;refine gg ?_;exact sI ho▸rt
 refine bi 7 ZjZ (fun hq2 ho=>?_) fun hq2 ho=>?_;rotate_left
 ·obtain rfl:=sI ho;exact jn
 obtain⟨t5,Z8Z,ho⟩:=bind_some ho;refine SP.jn 6 [7] 16 (.bool t5) ?_ ?_
 ·clear Z8Z;refine gg ?_;obtain rfl:=sI ho;exact jn
 refine bi 10 Z8Z (fun hq4 ho=>?_) fun hq4 ho=>?_
 ·obtain rfl:=sI ho;exact jn
 obtain⟨hz,ho⟩:=Xn ho;refine SP.val (Val.shr hz rfl rfl) rfl rfl rfl ?_;clear hz;refine gg ?_;obtain rfl:=sI ho;exact jn
def Va.f(VH VQ:Int):Option ((List Int)×Int):=
  if((decide (VH<1))||(decide (VH>8)))=true then(some ([],2))else((Z1q.f VH VQ).bind fun t4=>if(!t4)=true then(some ([],11))else((Xg.f VQ VH).bind fun t6=>some (t6,0)))
theorem Va.ok{VH VQ}(r)(ho:Va.f VH VQ=some r):Ok Tryz.prog 184 [i6 VH,i6 VQ] [] fun v=>HO.ex fun u0:Value=>HO.Yr (v=.tuple #[u0,i6 r.2]) (HO.Yk [Zg kb 5 u0 r.1]):=by
 refine oq 21 Tryz.func184 fun w hV see pb=>?_;refine sj 3 [0,1] 12 ho ?_ ?_
 ·refine gg ?_;refine cb ho (fun ho=>?_) fun ho=>?_
  ·exact sI ho▸rt (fun _ h=>sQ [0] (nO kb 5 h))
  refine kv Z1q.ok ho fun t4 ho=>?_;refine cb ho (fun ho=>?_) fun ho=>?_
  ·exact sI ho▸rt (fun _ h=>sQ [0] (nO kb 5 h))
  refine k1 Xg.ok ho fun t6 ho v7=>?_;exact sI ho▸rt (sO [0])
 refine bb 9 (fun hq2=>?_) fun hq2=>?_
 ·exact jb (Vi hq2)
 exact jb (Vj hq2 rfl)
def Z0w.f(Xx:Zp):Option ((List Int)×Int):=
  (Ua.f Xx).bind fun t3=>if(!t3)=true then(some ([],30))else(if Xx.Kind=1 then((Z0R.f Xx.A).bind fun t7=>if([Xx.Kind].length+t7.length)*1≤140737488355328 then(some ([Xx.Kind]++t7,0))else none)else((Va.f 3 (IntKind.i64.wrap (Xx.A+1048576))).bind fun t12=>if t12.2≠0 then(some ([],30))else(if([Xx.Kind].length+t12.1.length)*1≤140737488355328 then((Va.f 3 (IntKind.i64.wrap (Xx.B+1048576))).bind fun Te=>if Te.2≠0 then(some ([],30))else(if(([Xx.Kind]++t12.1).length+Te.1.length)*1≤140737488355328 then(some (([Xx.Kind]++t12.1)++Te.1,0))else none))else none)))
theorem Z0w.ok{Xx}(r)(ho:Z0w.f Xx=some r):Ok Tryz.prog 183 [.agg #[i8 Xx.Kind,i6 Xx.A,i6 Xx.B]] [] fun v=>HO.ex fun u0:Value=>HO.Yr (v=.tuple #[u0,i6 r.2]) (HO.Yk [Zg kb 5 u0 r.1]):=by
 refine oq 44 Tryz.func183 fun w hV see pb=>?_;refine bx fun b1=>?_;refine kv Ua.ok ho fun t3 ho=>?_;refine cb ho (fun ho=>?_) fun ho=>?_
 ·exact sI ho▸rt (fun _ h=>sQ [0] (nO kb 5 h))
 refine li kb [Xx.Kind] fun v5=>?_;refine ci ho (fun ho=>?_) fun ho=>?_
 ·refine k1 (h:=fun _ _=>id) Z0R.ok ho fun t7 ho v8=>?_;refine fz 0 ?_;refine ap 0 0 ho fun v10 ho=>?_;exact sI ho▸rt (sO [0])
 refine bd [i6 Xx.A,i6 Xx.B] ?_;refine CP.rounds 4 ?_;refine LP.step (gg ?_);refine CP.W9 rfl rfl (gg ?_);refine SP.val (Val.Z1m 0 Tryz.underlying297 Tryz.underlying2 rfl sz2.h rfl rfl rfl rfl) rfl rfl rfl (gg ?_);refine k1 Va.ok ho fun t12 ho v13=>?_;refine ci ho (fun ho=>?_) fun ho=>?_
 ·exact sI ho▸rt (fun _ h=>sQ [0] (nO kb 5 h))
 refine fz 0 ?_;refine ap 0 0 ho fun v16 ho=>?_;refine QE.round ?_;refine LP.step (gg ?_);refine CP.W9 rfl rfl (gg ?_);refine SP.val (Val.Z1m 1 Tryz.underlying297 Tryz.underlying2 rfl sz2.h rfl rfl rfl rfl) rfl rfl rfl (gg ?_);refine k1 Va.ok ho fun Te ho v19=>?_;refine ci ho (fun ho=>?_) fun ho=>?_
 ·exact sI ho▸rt (fun _ h=>sQ [0] (nO kb 5 h))
 refine fz 0 ?_;refine ap 0 0 ho fun v22 ho=>?_;refine QE.round ?_;refine LP.step (gg ?_);refine CP.K4 rfl rfl (gg ?_);exact sI ho▸rt (sO [0])
inductive Ve.S where
  |start
  |l1 (l19:List Int) (x21:Int)
def Ve.F(ZC:List Zp):Ve.S→Option (Ve.S⊕((List Int)×Int))
  | .start=>(Z2Z.f ZC).bind fun t2=>if(!t2)=true then(some (.inr ([],60)))else(some (.inl (.l1 [IntKind.u8.wrap (ZC.length:Int)] 0)))
  | .l1 l19 x21=>if x21<(ZC.length:Int)then((elt ZC x21).bind fun x25=>(Z0w.f x25).bind fun t28=>if t28.2≠0 then(some (.inr ([],60)))else(if(l19.length+t28.1.length)*1≤140737488355328 then(some (.inl (.l1 (l19++t28.1) (IntKind.i64.wrap (x21+1)))))else none))else(some (.inr (l19,0)))
def Ve.f(ZC:List Zp):Option ((List Int)×Int):=Zw (Ve.F ZC) .start
theorem Ve.ok{ZC Yt}(r)(H:Ve.f ZC=some r):Ok Tryz.prog 124 [Yt] [Z9 Z4 Yt ZC] fun v=>HO.ex fun u0:Value=>HO.Yr (v=.tuple #[u0,i6 r.2]) (HO.Yk [Zg kb 5 u0 r.1]):=by
 refine oq 34 Tryz.func124 fun w hV see pb=>?_;obtain⟨m0,o,ho,hr⟩:=rn H;refine kv Z2Z.ok ho fun t2 ho=>?_;refine cb ho (fun ho=>?_) fun ho=>?_
 ·exact fin ho hr▸rt (fun _ h=>sQ [0] (nO kb 5 h))
 refine li kb [wb (ZC.length:Int)] fun v4=>?_;refine lo ho hr (fun z=>∃l19 x21 v20,z (.l1 l19 x21) [(4,v20),(16,Yt),(17,i6 (ZC.length:Int)),(18,i6 x21)] [Zg kb 5 v20 l19]) (fun _ z=>⟨[wb (ZC.length:Int)],0,v4,z⟩) ?_;rintro _ _ _ ⟨l19,x21,v20,m22,o,_,_,ho,hr,h⟩;refine en h ?_;refine ci ho (fun ho=>?_) fun ho=>?_;rotate_left
 ·exact fin ho hr▸rt (sO [0])
 refine ip 0 ho fun x25 ho p23=>?_;refine ld 0 ?_;refine al fun KM=>?_;refine st 0 ?_;refine k1 Z0w.ok ho fun t28 ho v29=>?_;refine ci ho (fun ho=>?_) fun ho=>?_
 ·exact fin ho hr▸rt (fun _ h=>sQ [0] (nO kb 5 h))
 refine fz 0 ?_;refine ap 1 0 ho fun v32 ho=>?_;exact lw ho hr (fun _ z=>⟨(l19++t28.1),(wr (x21+1)),v32,z⟩) (sO [1])
shelf_lay_g Lays8.n4 Nm8 4 at Tryz 135 as Tryz.grow135
theorem Zcl{n:Int}(h0:0≤n)(hb:n*1≤140737488355328)(w:World)(hV:Hp) :
    XL Tryz.prog 135 #[.slice none 0 0,.int .i64 n] em hV w (fun r=>HO.ex fun u:Value=>HO.Yr (r=u) (HO.Yk [Zg (Uz .u8) 5 u []])):=by
  obtain⟨m,rfl⟩:=Int.eq_ofNat_of_zero_le h0;obtain⟨i0,z,hi0,hz0,hsz,hbt,hzl⟩:=Ziu (P:=Tryz.prog) Z5M.h;by_cases hm:m=0
  · subst hm
    exact(Any8.slices_Grow_room Tryz.grow135 none 0 0 0 w (by omega) (by omega) (by omega) (by omega)).mono fun e w' ⟨he,hw⟩=>by
      subst hw;exact⟨_,he,Met.refl _,fun _ _ e _=>e,em,em,fun _ _ _=>rfl,fun _ _ _=>rfl,Dj.YM _,Sub.em _,Sub.em _,_,rfl,em,em,Dj.YM _,Sub.em _,Sub.em _,Zg.nil _ _ _,trivial⟩
  · have h:=Any8.slices_Grow_grow Tryz.grow135 i0 z hi0 hz0 (by omega) none 0 0 m [] w (by omega) (by omega) (by rw[hbt];omega) (by omega) (by simp) (fun _=>rfl) (fun a ha=>by cases ha)
    exact h.mono fun e w' ⟨he,hw⟩=>ZeR he hw (grownCap_le_maxLen _ _ _ _ (by simp only[maxLen];omega)) (ZeS (by have:=grownCap_ge w (0+m) 0 5;rw[Nat.zero_add]at this ⊢;exact this) hzl)
inductive ZL.S where
  |start
  |l1 (x36 Uq:Int)
  |l2 (l57:List Int) (x59:Int)
def ZL.j1(Ug:(List (List Int)))(x36 Uq:Int)(x41:List Int):Option (ZL.S⊕(List Int)):=
  some (.inl (.l1 (IntKind.i64.wrap (x36+(x41.length:Int))) (IntKind.i64.wrap (Uq+1))))
def ZL.F(Ug:(List (List Int))):ZL.S→Option (ZL.S⊕(List Int))
  | .start=>some (.inl (.l1 0 0))
  | .l1 x36 Uq=>if Uq<(Ug.length:Int)then((elt Ug Uq).bind fun x41=>if(IntKind.i64.wrap (x36+(x41.length:Int)))<0 then(none)else(ZL.j1 Ug x36 Uq x41))else(if 0≤x36∧x36*1≤140737488355328 then(some (.inl (.l2 ([]:List Int) 0)))else none)
  | .l2 l57 x59=>if x59<(Ug.length:Int)then((elt Ug x59).bind fun x63=>if(l57.length+x63.length)*1≤140737488355328 then(some (.inl (.l2 (l57++x63) (IntKind.i64.wrap (x59+1)))))else none)else(some (.inr l57))
def ZL.f(Ug:(List (List Int))):Option (List Int):=Zw (ZL.F Ug) .start
theorem ZL.ok{Ug Z0a}(r)(H:ZL.f Ug=some r):Ok Tryz.prog 76 [Z0a] [Z9 (TK kb) Z0a Ug] fun v=>HO.ex fun u0:Value=>HO.Yr (v=u0) (HO.Yk [Zg kb 5 u0 r]):=by
 refine oq 36 Tryz.func76 fun w hV see pb=>?_;obtain⟨m0,o,ho,hr⟩:=rn H;refine lo ho hr (fun z=>∃x36 Uq,z (.l1 x36 Uq) [(0,Z0a),(3,i6 x36),(9,Z0a),(10,i6 (Ug.length:Int)),(11,i6 Uq)] []) (fun _ z=>⟨0,0,z⟩) ?_;rintro _ _ _ ⟨x36,Uq,m38,o,_,_,ho,hr,h⟩;refine en h ?_;refine ci (ht:=id) ho (fun ho=>?_) fun ho=>?_
 ·refine go ?_;refine ji hr (fun z=>∃x41,z (ZL.j1 Ug x36 Uq x41) [(0,Z0a),(3,i6 (wr (x36+(x41.length:Int)))),(9,Z0a),(10,i6 (Ug.length:Int)),(11,i6 Uq)] []) ?_ ?_
  ·rintro _ _ ⟨x41,m44,o,_,ho,hr,h⟩;refine en h ?_;exact lw ho hr (fun _ z=>⟨(wr (x36+(x41.length:Int))),(wr (Uq+1)),z⟩)
  refine gg ?_;refine ip 0 ho fun x41 ho p39=>?_;refine SP.Z2k see 0 rfl Tryz.underlying31 rfl rfl rfl (fun v42=>gg ?_);refine ci ho (fun ho=>?_) fun ho=>?_
  ·cases ho
  exact mi ho hr (fun _ z=>⟨x41,z⟩)
 obtain⟨hb,ho⟩:=Xn ho;refine SP.Ti see (caps:=[]) _ Zpi.h rfl rfl rfl rfl (fun w2 hP hs sub ap=>Zcl hb.1 hb.2 w2 hP) (SP.k1 fun v46=>?_);clear hb;refine gg ?_;refine lo ho hr (fun z=>∃l57 x59 v58,z (.l2 l57 x59) [(6,v58),(25,Z0a),(26,i6 (Ug.length:Int)),(27,i6 x59)] [Zg kb 5 v58 l57]) (fun _ z=>⟨([]:List Int),0,v46,z⟩) ?_;rintro _ _ _ ⟨l57,x59,v58,m60,o,_,_,ho,hr,h⟩;refine en h ?_;refine ci ho (fun ho=>?_) fun ho=>?_
 ·refine ip 0 ho fun x63 ho p61=>?_;refine SP.Z2k see 0 rfl Tryz.underlying31 rfl rfl rfl (fun v64=>gg ?_);refine ap 0 0 ho fun v66 ho=>?_;exact lw ho hr (fun _ z=>⟨(l57++x63),(wr (x59+1)),v66,z⟩)
 exact fin ho hr▸rt (sO [0])
def Z0T.f(Z0:Zb):Option (List Int):=
  (ZL.f [Z0.Args,Z0.Zk]).bind fun t8=>some t8
theorem Z0T.ok{Z0 Xu YP XH}(r)(ho:Z0T.f Z0=some r):Ok Tryz.prog 62 [.agg #[Xu,YP,i8 Z0.Result,.bool Z0.Reads,i6 Z0.Fuel,i6 Z0.Stack,i6 Z0.Heap,XH]] [Z9 kb Xu Z0.Args,Z9 kb YP Z0.Zk,Z9 Z8 XH Z0.Code] fun v=>HO.ex fun u0:Value=>HO.Yr (v=u0) (HO.Yk [Zg kb 5 u0 r]):=by
 refine oq 9 Tryz.func62 fun w hV see pb=>?_;refine bx fun b4=>?_;refine SP.Z9N (k:=(TK kb)) (xs:=[Z0.Args,Z0.Zk]) (vs:=[Xu,YP]) Tryz.underlying191 Zbs.h rfl rfl rfl rfl rfl rfl (fun _ ap=>⟨Xb.Z1O (ap.get 0 rfl),Xb.Z1O (ap.get 1 rfl),trivial⟩) (fun _ ap=>⟨[Xu],_,rfl,⟨_,rfl,ap.get 0 rfl⟩,⟨[YP],_,rfl,⟨_,rfl,ap.get 1 rfl⟩,rfl⟩⟩) rfl rfl rfl (fun v6=>?_);obtain⟨t8,hc,ho⟩:=bind_some ho;refine SP.Z1M see (caps:=[]) _ Zf0.h rfl rfl rfl rfl (fun w2 hs=>ZL.ok _ hc w2 (hp w2) (Sub.refl _) (aS (Zg.read (St.own 0 rfl see.sub see.dj hs) (Sub.refl _) (Sub.refl _)) (All.nil _))) (fun v a a2 b ⟨v9,e,h⟩=>⟨v9,e,(Sep.Z3U (fun _=>Zg.flip (fun _ _ _ _ h=>h)) (fun _=>Sep.Z5E)) h⟩) (SP.k1 fun v9=>?_);clear hc;refine gg ?_;exact sI ho▸rt (sO [0])
def Z0U.f(Xx:Zp):Option Bool:=
  (Ua.f Xx).bind fun t3=>some (t3||(Xx.Kind==3&&(Xx.A==(if 0>Xx.A then 0 else Xx.A)&&(Xx.B==0))))
theorem Z0U.ok{Xx}(r)(ho:Z0U.f Xx=some r):Ok Tryz.prog 187 [.agg #[i8 Xx.Kind,i6 Xx.A,i6 Xx.B]] [] fun v=>HO.pure (v=.bool r):=by
 refine oq 13 Tryz.func187 fun w hV see pb=>?_;refine bx fun b1=>?_;refine kv Ua.ok ho fun t3 ho=>?_;refine SP.jn 7 [] 12 (.bool (t3||(Xx.Kind==3&&(Xx.A==(if 0>Xx.A then 0 else Xx.A)&&(Xx.B==0))))) ?_ ?_
 ·refine gg ?_;exact sI ho▸rt
 refine bb 5 (fun UF=>?_) fun UF=>?_
 ·exact jb (Vi UF)
 refine SP.val (Val.max2 rfl rfl) rfl rfl rfl ?_;refine bd [i8 3,i6 (if 0>Xx.A then 0 else Xx.A),i6 0] ?_;refine SP.val (Val.Zih (by kernel_rfl) (fun w2=>Z8S 9998 w2 Xx.Kind 3 Xx.A (if 0>Xx.A then 0 else Xx.A) Xx.B 0) rfl rfl) rfl rfl rfl (gg ?_);exact jb (Vj UF rfl)
def Z2u.f(Z0V:Int):Option (Zp×Bool):=
  (Z0U.f (⟨Z0V,0,0⟩:Zp)).bind fun t5=>if(!t5)=true then(some ((⟨0,0,0⟩:Zp),false))else(some ((⟨Z0V,0,0⟩:Zp),true))
theorem Z2u.ok{Z0V}(r)(ho:Z2u.f Z0V=some r):Ok Tryz.prog 127 [i8 Z0V] [] fun v=>HO.pure (v=.tuple #[.agg #[i8 r.1.Kind,i6 r.1.A,i6 r.1.B],.bool r.2]):=by
 refine oq 12 Tryz.func127 fun w hV see pb=>?_;refine al fun b1=>?_;refine bd [i8 Z0V,i6 0,i6 0] ?_;refine al fun b3=>?_;refine st 0 ?_;refine kv Z0U.ok ho fun t5 ho=>?_;refine cb ho (fun ho=>?_) fun ho=>?_
 ·refine bd [i8 0,i6 0,i6 0] ?_;refine st 1 ?_;exact sI ho▸rt
 refine st 1 ?_;exact sI ho▸rt
def JA.f(Z0V:Int):Option Bool:=
  (Z2u.f Z0V).bind fun t1=>some t1.2
theorem JA.ok{Z0V}(r)(ho:JA.f Z0V=some r):Ok Tryz.prog 63 [i8 Z0V] [] fun v=>HO.pure (v=.bool r):=by
 refine oq 11 Tryz.func63 fun w hV see pb=>?_;refine kv Z2u.ok ho fun t1 ho=>?_;refine al fun b2=>?_;refine st 0 ?_;exact sI ho▸rt
def UM.f(Xf Z6y:Int):Option Bool:=
  some ((decide (Xf≥0))&&(decide (Xf≤Z6y)))
theorem UM.ok{Xf Z6y}(r)(ho:UM.f Xf Z6y=some r):Ok Tryz.prog 64 [i6 Xf,i6 Z6y] [] fun v=>HO.pure (v=.bool r):=by
 refine oq 12 Tryz.func64 fun w hV see pb=>?_;refine SP.jn 4 [] 11 (.bool ((decide (Xf≥0))&&(decide (Xf≤Z6y)))) ?_ ?_
 ·refine gg ?_;exact sI ho▸rt
 refine bb 7 (fun hq2=>?_) fun hq2=>?_
 ·exact jb (WH hq2 rfl)
 exact jb (WI hq2)
inductive Vo.S where
  |start
  |l1 (t12:List Int) (x28:Int)
def Vo.F(Z0:Zb):Vo.S→Option (Vo.S⊕Bool)
  | .start=>if(((decide ((Z0.Args.length:Int)>4))||(decide ((IntKind.i64.wrap ((Z0.Args.length:Int)+(Z0.Zk.length:Int)))>16)))||((decide (Z0.Result≠1))&&(decide (Z0.Result≠2))))=true then(some (.inr false))else((Z0T.f Z0).bind fun t12=>some (.inl (.l1 t12 0)))
  | .l1 t12 x28=>if x28<(t12.length:Int)then((elt t12 x28).bind fun x31=>(JA.f x31).bind fun t32=>if(!t32)=true then(some (.inr false))else(some (.inl (.l1 t12 (IntKind.i64.wrap (x28+1))))))else((UM.f Z0.Fuel 1048576).bind fun t33=>(if t33=true then((UM.f Z0.Stack 256).bind fun t36=>some t36)else(some false)).bind fun t37=>(if t37=true then((UM.f Z0.Heap 1024).bind fun t40=>some t40)else(some false)).bind fun t41=>some (.inr t41))
def Vo.f(Z0:Zb):Option Bool:=Zw (Vo.F Z0) .start
theorem Vo.ok{Z0 Xu YP XH}(r)(H:Vo.f Z0=some r):Ok Tryz.prog 32 [.agg #[Xu,YP,i8 Z0.Result,.bool Z0.Reads,i6 Z0.Fuel,i6 Z0.Stack,i6 Z0.Heap,XH]] [Z9 kb Xu Z0.Args,Z9 kb YP Z0.Zk,Z9 Z8 XH Z0.Code] fun v=>HO.pure (v=.bool r):=by
 refine oq 53 Tryz.func32 fun w hV see pb=>?_;obtain⟨m0,o,ho,hr⟩:=rn H;refine bx fun b4=>?_;refine SP.jn 9 [1] 18 (.bool ((decide ((Z0.Args.length:Int)>4))||(decide ((wr ((Z0.Args.length:Int)+(Z0.Zk.length:Int)))>16)))) ?_ ?_;rotate_left
 ·refine bb 9 (fun VP=>?_) fun VP=>?_
  ·exact jb (Vi VP)
  exact jb (Vj VP rfl)
 refine gg ?_;refine sj 9 [1] 28 ho ?_ ?_;rotate_left
 ·refine bb 19 (fun hq9=>?_) fun hq9=>?_
  ·exact jb (Vi hq9)
  refine SP.jn 4 [1,19] 27 (.bool ((decide (Z0.Result≠1))&&(decide (Z0.Result≠2)))) ?_ ?_
  ·refine gg ?_;exact jb (Vj hq9 rfl)
  refine bb 23 (fun hq11=>?_) fun hq11=>?_
  ·exact jb (WH hq11 rfl)
  exact jb (WI hq11)
 refine gg ?_;refine cb ho (fun ho=>?_) fun ho=>?_
 ·exact fin ho hr▸rt
 refine k1 Z0T.ok ho fun t12 ho v13=>?_;refine lo ho hr (fun z=>∃x28,z (.l1 t12 x28) [(1,pt b4),(30,v13),(31,i6 (t12.length:Int)),(32,i6 x28)] [Zg kb 5 v13 t12,Zl b4 [Xu,YP,i8 Z0.Result,.bool Z0.Reads,i6 Z0.Fuel,i6 Z0.Stack,i6 Z0.Heap,XH] 34]) (fun _ z=>⟨0,z⟩) ?_;rintro _ _ _ ⟨x28,m29,o,_,_,ho,hr,h⟩;refine en h ?_;refine ci ho (fun ho=>?_) fun ho=>?_
 ·obtain⟨x31,Z4q,ho⟩:=Yu ho;refine SP.Wo (fun w2 hw=>Zg.whole (St.own 0 rfl see.sub see.dj hw)) Tryz.underlying31 Tj.h Z4q.1 Z4q.2 rfl rfl rfl rfl (fun p30 Zf5=>?_);refine SP.val (Val.Vu (off:=0) (k:=kb) (fun w2 hw=>Zg.whole (St.own 0 rfl see.sub see.dj hw)) Z4q.2 Zf5 (fun _ _ e=>by subst e;rfl) Tryz.underlying5 rfl rfl) rfl rfl rfl (gg ?_);refine kv JA.ok ho fun t32 ho=>?_;refine cb ho (fun ho=>?_) fun ho=>?_
  ·exact fin ho hr▸rt
  exact lw ho hr (fun _ z=>⟨(wr (x28+1)),z⟩)
 refine kv UM.ok ho fun t33 ho=>?_;obtain⟨t37,ZgE,ho⟩:=bind_some ho;refine SP.jn 4 [1] 47 (.bool t37) ?_ ?_
 ·clear ZgE;refine gg ?_;obtain⟨t41,Z3t,ho⟩:=bind_some ho;refine SP.jn 4 [] 52 (.bool t41) ?_ ?_
  ·clear Z3t;refine gg ?_;exact fin ho hr▸rt
  refine bc 48 Z3t (fun Z8h ho=>?_) fun Z8h ho=>?_
  ·refine kv UM.ok ho fun t40 ho=>?_;obtain rfl:=sI ho;exact jn
  obtain rfl:=sI ho;exact jn
 refine bc 43 ZgE (fun ZvJ ho=>?_) fun ZvJ ho=>?_
 ·refine kv UM.ok ho fun t36 ho=>?_;obtain rfl:=sI ho;exact jn
 obtain rfl:=sI ho;exact jn
def VZ.j1(Z0:Zb)(l32:List Int):Option ((List Int)×Int):=
  (Va.f 3 Z0.Fuel).bind fun t36=>if t36.2≠0 then(some ([],70))else(if(l32.length+t36.1.length)*1≤140737488355328 then((Va.f 2 Z0.Stack).bind fun t44=>if t44.2≠0 then(some ([],70))else(if((l32++t36.1).length+t44.1.length)*1≤140737488355328 then((Va.f 2 Z0.Heap).bind fun t52=>if t52.2≠0 then(some ([],70))else(if(((l32++t36.1)++t44.1).length+t52.1.length)*1≤140737488355328 then(some (((l32++t36.1)++t44.1)++t52.1,0))else none))else none))else none)
def VZ.f(Z0:Zb):Option ((List Int)×Int):=
  (Vo.f Z0).bind fun t6=>if(!t6)=true then(some ([],70))else(if([IntKind.u8.wrap (Z0.Args.length:Int)].length+Z0.Args.length)*1≤140737488355328 then(if(([IntKind.u8.wrap (Z0.Args.length:Int)]++Z0.Args).length + [IntKind.u8.wrap (Z0.Zk.length:Int)].length)*1≤140737488355328 then(if((([IntKind.u8.wrap (Z0.Args.length:Int)]++Z0.Args) ++ [IntKind.u8.wrap (Z0.Zk.length:Int)]).length+Z0.Zk.length)*1≤140737488355328 then(if(((([IntKind.u8.wrap (Z0.Args.length:Int)]++Z0.Args) ++ [IntKind.u8.wrap (Z0.Zk.length:Int)])++Z0.Zk).length + [Z0.Result,0].length)*1≤140737488355328 then(if Z0.Reads=true then((elt (((([IntKind.u8.wrap (Z0.Args.length:Int)]++Z0.Args) ++ [IntKind.u8.wrap (Z0.Zk.length:Int)])++Z0.Zk) ++ [Z0.Result,0]) (IntKind.i64.wrap (((((([IntKind.u8.wrap (Z0.Args.length:Int)]++Z0.Args) ++ [IntKind.u8.wrap (Z0.Zk.length:Int)])++Z0.Zk) ++ [Z0.Result,0]).length:Int)-1))).bind fun x31=>VZ.j1 Z0 ((((([IntKind.u8.wrap (Z0.Args.length:Int)]++Z0.Args) ++ [IntKind.u8.wrap (Z0.Zk.length:Int)])++Z0.Zk) ++ [Z0.Result,0]).set (IntKind.i64.wrap (((((([IntKind.u8.wrap (Z0.Args.length:Int)]++Z0.Args) ++ [IntKind.u8.wrap (Z0.Zk.length:Int)])++Z0.Zk) ++ [Z0.Result,0]).length:Int)-1)).toNat 1))else(VZ.j1 Z0 (((([IntKind.u8.wrap (Z0.Args.length:Int)]++Z0.Args) ++ [IntKind.u8.wrap (Z0.Zk.length:Int)])++Z0.Zk) ++ [Z0.Result,0])))else none)else none)else none)else none)
theorem VZ.ok{Z0 Xu YP XH}(r)(ho:VZ.f Z0=some r):Ok Tryz.prog 125 [.agg #[Xu,YP,i8 Z0.Result,.bool Z0.Reads,i6 Z0.Fuel,i6 Z0.Stack,i6 Z0.Heap,XH]] [Z9 kb Xu Z0.Args,Z9 kb YP Z0.Zk,Z9 Z8 XH Z0.Code] fun v=>HO.ex fun u0:Value=>HO.Yr (v=.tuple #[u0,i6 r.2]) (HO.Yk [Zg kb 5 u0 r.1]):=by
 refine oq 70 Tryz.func125 fun w hV see pb=>?_;refine bx fun b4=>?_;refine kv Vo.ok ho fun t6 ho=>?_;refine cb ho (fun ho=>?_) fun ho=>?_
 ·exact sI ho▸rt (fun _ h=>sQ [0] (nO kb 5 h))
 refine li kb [wb (Z0.Args.length:Int)] fun v8=>?_;refine ap 0 0 ho fun v10 ho=>?_;refine dr ?_;refine(DA.phase (fun i=>Nat.ble 0 i&&Nat.blt i 9) (fun w2=>St w em hV [Z9 kb Xu Z0.Args,Z9 kb YP Z0.Zk,Z9 Z8 XH Z0.Code] [Zl b4 [Xu,YP,i8 Z0.Result,.bool Z0.Reads,i6 Z0.Fuel,i6 Z0.Stack,i6 Z0.Heap,XH] 34] w2) ?_);refine ts 0 [1] ?_;refine ts 1 [1] ?_;refine ts 2 [1] ?_;refine ts 3 [1] ?_;refine ts 4 [1] ?_;refine ts 7 [1] ?_;refine ts 8 [1] ?_;refine DT.one 5 rfl (by kernel_rfl) rfl ?_;refine li kb [wb (Z0.Zk.length:Int)] fun v20=>?_;refine QE.Vq (fun w2 hw=>(sQ [2] hw)) ?_;refine DT.one 6 rfl (by kernel_rfl) rfl ?_;refine fz 0 ?_;refine ap 0 0 ho fun v22 ho=>?_;refine QE.Vq (fun w2 hw=>(St.V5 [1,2,3] rfl (sQ [1] hw))) ?_;refine dn ?_;refine d1 9 ?_;refine ap 0 2 ho fun v24 ho=>?_;refine d1 10 ?_;refine dz ?_;refine li (h:=fun _=>id) kb [Z0.Result,0] fun v26=>?_;refine fz 0 ?_;refine ap (h:=fun _=>id) 0 0 ho fun v28 ho=>?_;refine go ?_;refine oi r (fun z=>∃l32 v33,z (VZ.j1 Z0 l32) [(1,pt b4),(4,v33)] [Zg kb 5 v33 l32,Zl b4 [Xu,YP,i8 Z0.Result,.bool Z0.Reads,i6 Z0.Fuel,i6 Z0.Stack,i6 Z0.Heap,XH] 34]) ?_ ?_;rotate_left
 ·refine gg ?_;refine cb ho (fun ho=>?_) fun ho=>?_
  ·obtain⟨x31,Z4q,ho⟩:=Yu ho;refine SP.Wo (fun w2 hw=>Zg.whole (St.own 0 rfl see.sub see.dj hw)) Tryz.underlying31 Tj.h Z4q.1 Z4q.2 rfl rfl rfl rfl (fun p30 Zf5=>?_);refine SP.Z2m (z0:=1) (off:=0) (vs:=[i8 1]) see 0 rfl Z4q.2 Zf5 rfl rfl Tj.h rfl (fun a cs _ e=>by subst e;rfl) rfl rfl rfl (gg ?_);exact mo ho (fun _ z=>⟨((((([wb (Z0.Args.length:Int)]++Z0.Args) ++ [wb (Z0.Zk.length:Int)])++Z0.Zk) ++ [Z0.Result,0]).set (wr (((((([wb (Z0.Args.length:Int)]++Z0.Args) ++ [wb (Z0.Zk.length:Int)])++Z0.Zk) ++ [Z0.Result,0]).length:Int)-1)).toNat 1),v28,z⟩)
  exact mo ho (fun _ z=>⟨(((([wb (Z0.Args.length:Int)]++Z0.Args) ++ [wb (Z0.Zk.length:Int)])++Z0.Zk) ++ [Z0.Result,0]),v28,z⟩)
 rintro _ _ ⟨l32,v33,ho,h⟩;refine en h ?_;refine bd [i6 3,i6 Z0.Fuel] ?_;refine bd [i6 2,i6 Z0.Stack] ?_;refine bd [i6 2,i6 Z0.Heap] ?_;refine bd [i6 3,i6 Z0.Fuel,i6 2,i6 Z0.Stack,i6 2,i6 Z0.Heap] ?_;refine CP.rounds 5 ?_;refine LP.step (gg ?_);refine CP.W9 rfl rfl (gg ?_);refine SP.val (Val.Z1n (c:=[i6 3,i6 Z0.Fuel]) 0 Tryz.underlying241 Tryz.underlying240 rfl ZeZ.h rfl rfl rfl rfl) rfl rfl rfl ?_;refine al fun b34=>?_;refine st 0 ?_;refine k1 Va.ok ho fun t36 ho v37=>?_;refine ci ho (fun ho=>?_) fun ho=>?_
 ·exact sI ho▸rt (fun _ h=>sQ [0] (nO kb 5 h))
 refine fz 0 ?_;refine ap 1 0 ho fun v40 ho=>?_;refine QE.round ?_;refine LP.step (gg ?_);refine CP.W9 rfl rfl (gg ?_);refine SP.val (Val.Z1n (c:=[i6 2,i6 Z0.Stack]) 1 Tryz.underlying241 Tryz.underlying240 rfl ZeZ.h rfl rfl rfl rfl) rfl rfl rfl ?_;refine al fun b42=>?_;refine st 0 ?_;refine k1 Va.ok ho fun t44 ho v45=>?_;refine ci ho (fun ho=>?_) fun ho=>?_
 ·exact sI ho▸rt (fun _ h=>sQ [0] (nO kb 5 h))
 refine fz 0 ?_;refine ap 2 0 ho fun v48 ho=>?_;refine QE.round ?_;refine LP.step (gg ?_);refine CP.W9 rfl rfl (gg ?_);refine SP.val (Val.Z1n (c:=[i6 2,i6 Z0.Heap]) 2 Tryz.underlying241 Tryz.underlying240 rfl ZeZ.h rfl rfl rfl rfl) rfl rfl rfl ?_;refine al fun b50=>?_;refine st 0 ?_;refine k1 Va.ok ho fun t52 ho v53=>?_;refine ci ho (fun ho=>?_) fun ho=>?_
 ·exact sI ho▸rt (fun _ h=>sQ [0] (nO kb 5 h))
 refine fz 0 ?_;refine ap 3 0 ho fun v56 ho=>?_;refine QE.round ?_;refine LP.step (gg ?_);refine CP.K4 rfl rfl (gg ?_);exact sI ho▸rt (sO [3])
def Z2v.f(Vd:Z7):Option Bool:=
  (Z1P.f Vd).bind fun t3=>some (!t3)
theorem Z2v.ok{Vd}(r)(ho:Z2v.f Vd=some r):Ok Tryz.prog 235 [.agg #[i8 Vd.Op,i6 Vd.A,i6 Vd.B]] [Xi ZY 0 XM] fun v=>HO.pure (v=.bool r):=by
 refine oq 6 Tryz.func235 fun w hV see pb=>?_;refine bx fun b1=>?_;refine kv Z1P.ok ho fun t3 ho=>?_;exact sI ho▸rt
inductive Ya.S where
  |start
  |l1 (x7:Int)
def Ya.F(s_0:List Z7):Ya.S→Option (Ya.S⊕Int)
  | .start=>some (.inl (.l1 0))
  | .l1 x7=>if x7<(s_0.length:Int)then((elt s_0 x7).bind fun Zh=>(Z2v.f Zh).bind fun t12=>if t12=true then(some (.inr x7))else(some (.inl (.l1 (IntKind.i64.wrap (x7+1))))))else(some (.inr (-1)))
def Ya.f(s_0:List Z7):Option Int:=Zw (Ya.F s_0) .start
theorem Ya.ok{s_0 X4}(r)(H:Ya.f s_0=some r):Ok Tryz.prog 128 [X4,.func (.func 235) #[] #[]] [Z9 Z8 X4 s_0,Xi ZY 0 XM] fun v=>HO.pure (v=i6 r):=by
 refine oq 19 Tryz.func128 fun w hV see pb=>?_;obtain⟨m0,o,ho,hr⟩:=rn H;refine lo ho hr (fun z=>∃x7,z (.l1 x7) [(0,X4),(1,.func (.func 235) #[] #[]),(7,i6 (s_0.length:Int)),(8,i6 x7)] []) (fun _ z=>⟨0,z⟩) ?_;rintro _ _ _ ⟨x7,m8,o,_,_,ho,hr,h⟩;refine en h ?_;refine ci ho (fun ho=>?_) fun ho=>?_
 ·refine ip 0 ho fun Zh ho p9=>?_;refine ld 0 ?_;refine kv Z2v.ok ho fun t12 ho=>?_;refine cb ho (fun ho=>?_) fun ho=>?_
  ·exact fin ho hr▸rt
  exact lw ho hr (fun _ z=>⟨(wr (x7+1)),z⟩)
 exact fin ho hr▸rt
def WB.f(s_0:List Z7):Option Bool:=
  (Ya.f s_0).bind fun t2=>some (decide (t2≥0))
theorem WB.ok{s_0 X4}(r)(ho:WB.f s_0=some r):Ok Tryz.prog 66 [X4,.func (.func 235) #[] #[]] [Z9 Z8 X4 s_0,Xi ZY 0 XM] fun v=>HO.pure (v=.bool r):=by
 refine oq 9 Tryz.func66 fun w hV see pb=>?_;refine kv Ya.ok ho fun t2 ho=>?_;exact sI ho▸rt
def Z30.f(ZC:List Z7):Option Bool:=
  (if((decide ((ZC.length:Int)>0))&&(decide ((ZC.length:Int)≤200)))=true then((WB.f ZC).bind fun t6=>some (!t6))else(some false)).bind fun t7=>some t7
theorem Z30.ok{ZC Yt}(r)(ho:Z30.f ZC=some r):Ok Tryz.prog 185 [Yt] [Z9 Z8 Yt ZC,Xi ZY 0 XM] fun v=>HO.pure (v=.bool r):=by
 refine oq 16 Tryz.func185 fun w hV see pb=>?_;refine SP.jn 4 [0] 10 (.bool ((decide ((ZC.length:Int)>0))&&(decide ((ZC.length:Int)≤200)))) ?_ ?_;rotate_left
 ·refine bb 6 (fun hq3=>?_) fun hq3=>?_
  ·exact jb (WH hq3 rfl)
  exact jb (WI hq3)
 refine gg ?_;obtain⟨t7,Z91,ho⟩:=bind_some ho;refine SP.jn 4 [] 15 (.bool t7) ?_ ?_
 ·clear Z91;refine gg ?_;exact sI ho▸rt
 refine bc 11 Z91 (fun UF ho=>?_) fun UF ho=>?_
 ·refine kv WB.ok ho fun t6 ho=>?_;obtain rfl:=sI ho;exact jn
 obtain rfl:=sI ho;exact jn
inductive Ws.S where
  |start
  |l1 (l28:List Int) (x30:Int)
def Ws.j1(ZC:List Z7)(x30:Int)(l49:List Int):Option (Ws.S⊕((List Int)×Int)):=
  some (.inl (.l1 l49 (IntKind.i64.wrap (x30+1))))
def Ws.F(ZC:List Z7):Ws.S→Option (Ws.S⊕((List Int)×Int))
  | .start=>(Z30.f ZC).bind fun t2=>if(!t2)=true then(some (.inr ([],40)))else(some (.inl (.l1 [IntKind.u8.wrap (ZC.length:Int)] 0)))
  | .l1 l28 x30=>if x30<(ZC.length:Int)then((elt ZC x30).bind fun x34=>if(l28.length + [x34.Op].length)*1≤140737488355328 then((JY.f x34.Op).bind fun t41=>if(!t41)=true then(Ws.j1 ZC x30 (l28 ++ [x34.Op]))else((Va.f 2 x34.A).bind fun t42=>if t42.2≠0 then(some (.inr ([],40)))else(if((l28 ++ [x34.Op]).length+t42.1.length)*1≤140737488355328 then(Ws.j1 ZC x30 ((l28 ++ [x34.Op])++t42.1))else none)))else none)else(some (.inr (l28,0)))
def Ws.f(ZC:List Z7):Option ((List Int)×Int):=Zw (Ws.F ZC) .start
theorem Ws.ok{ZC Yt}(r)(H:Ws.f ZC=some r):Ok Tryz.prog 126 [Yt] [Z9 Z8 Yt ZC,Xi ZY 0 XM] fun v=>HO.ex fun u0:Value=>HO.Yr (v=.tuple #[u0,i6 r.2]) (HO.Yk [Zg kb 5 u0 r.1]):=by
 refine oq 44 Tryz.func126 fun w hV see pb=>?_;obtain⟨m0,o,ho,hr⟩:=rn H;refine kv Z30.ok ho fun t2 ho=>?_;refine cb ho (fun ho=>?_) fun ho=>?_
 ·exact fin ho hr▸rt (fun _ h=>sQ [0] (nO kb 5 h))
 refine li kb [wb (ZC.length:Int)] fun v4=>?_;refine lo ho hr (fun z=>∃l28 x30 v29,z (.l1 l28 x30) [(4,v29),(16,Yt),(17,i6 (ZC.length:Int)),(18,i6 x30)] [Zg kb 5 v29 l28]) (fun _ z=>⟨[wb (ZC.length:Int)],0,v4,z⟩) ?_;rintro _ _ _ ⟨l28,x30,v29,m31,o,_,_,ho,hr,h⟩;refine en h ?_;refine ci (ht:=id) ho (fun ho=>?_) fun ho=>?_;rotate_left
 ·exact fin ho hr▸rt (sO [0])
 refine go ?_;refine ji hr (fun z=>∃l49 v50,z (Ws.j1 ZC x30 l49) [(4,v50),(16,Yt),(17,i6 (ZC.length:Int)),(18,i6 x30)] [Zg kb 5 v50 l49]) ?_ ?_
 ·rintro _ _ ⟨l49,v50,m51,o,_,ho,hr,h⟩;refine en h ?_;exact lw ho hr (fun _ z=>⟨l49,(wr (x30+1)),v50,z⟩)
 refine gg ?_;refine ip 0 ho fun x34 ho p32=>?_;refine ld 0 ?_;refine al fun b35=>?_;refine st 0 ?_;refine li (h:=fun _=>id) kb [x34.Op] fun v37=>?_;refine fz 0 ?_;refine ap 1 0 ho fun v39 ho=>?_;refine kv JY.ok ho fun t41 ho=>?_;refine cb ho (fun ho=>?_) fun ho=>?_
 ·exact mi ho hr (fun _ z=>⟨(l28 ++ [x34.Op]),v39,z⟩) (sO [1])
 refine k1 Va.ok ho fun t42 ho v43=>?_;refine ci ho (fun ho=>?_) fun ho=>?_
 ·exact fin ho hr▸rt (fun _ h=>sQ [0] (nO kb 5 h))
 refine fz 0 ?_;refine ap 1 0 ho fun v46 ho=>?_;exact mi ho hr (fun _ z=>⟨((l28 ++ [x34.Op])++t42.1),v46,z⟩) (sO [1])
inductive XI.S where
  |start
  |l1 (Js:List Int) (Z3V:Int)
def XI.j1(Z0:Zc)(Js:List Int)(Z5Q:Int):Option (XI.S⊕((List Int)×Int)):=
  if(Js.length + [Z5Q].length)*1≤140737488355328 then(some (.inr (Js ++ [Z5Q],0)))else none
def XI.F(Z0:Zc):XI.S→Option (XI.S⊕((List Int)×Int))
  | .start=>if((((decide ((Z0.ZA.length:Int)>4))||(decide ((Z0.Methods.length:Int)>16)))||(decide (Z0.Zo<(-1))))||(decide (Z0.Zo≥(Z0.Methods.length:Int))))=true then(some (.inr ([],80)))else((Ve.f Z0.ZA).bind fun Kh=>if Kh.2≠0 then(some (.inr ([],Kh.2)))else((Ve.f Z0.Pool).bind fun t17=>if t17.2≠0 then(some (.inr ([],t17.2)))else(if(Kh.1.length+t17.1.length)*1≤140737488355328 then(if((Kh.1++t17.1).length + [IntKind.u8.wrap (Z0.Methods.length:Int)].length)*1≤140737488355328 then(some (.inl (.l1 ((Kh.1++t17.1) ++ [IntKind.u8.wrap (Z0.Methods.length:Int)]) 0)))else none)else none)))
  | .l1 Js Z3V=>if Z3V<(Z0.Methods.length:Int)then((elt Z0.Methods Z3V).bind fun Zf6=>(VZ.f Zf6).bind fun Z5R=>if Z5R.2≠0 then(some (.inr ([],Z5R.2)))else((Ws.f Zf6.Code).bind fun Z7t=>if Z7t.2≠0 then(some (.inr ([],Z7t.2)))else(if(Js.length+Z5R.1.length)*1≤140737488355328 then(if((Js++Z5R.1).length+Z7t.1.length)*1≤140737488355328 then(some (.inl (.l1 ((Js++Z5R.1)++Z7t.1) (IntKind.i64.wrap (Z3V+1)))))else none)else none)))else(if Z0.Zo≥0 then(XI.j1 Z0 Js (IntKind.u8.wrap Z0.Zo))else(XI.j1 Z0 Js 255))
def XI.f(Z0:Zc):Option ((List Int)×Int):=Zw (XI.F Z0) .start
theorem XI.ok{Z0 Z6 Za Z5}(r)(H:XI.f Z0=some r):Ok Tryz.prog 61 [.agg #[Z6,Za,Z5,i6 Z0.Zo]] [Z9 Z4 Z6 Z0.ZA,Z9 Z4 Za Z0.Pool,Z9 Zd Z5 Z0.Methods,Xi ZY 0 XM] fun v=>HO.ex fun u0:Value=>HO.Yr (v=.tuple #[u0,i6 r.2]) (HO.Yk [Zg kb 5 u0 r.1]):=by
 refine oq 103 Tryz.func61 fun w hV see pb=>?_;obtain⟨m0,o,ho,hr⟩:=rn H;refine bx fun b4=>?_;refine SP.jn 5 [1] 22 (.bool ((decide ((Z0.ZA.length:Int)>4))||(decide ((Z0.Methods.length:Int)>16)))) ?_ ?_;rotate_left
 ·refine bb 17 (fun VP=>?_) fun VP=>?_
  ·exact jb (Vi VP)
  exact jb (Vj VP rfl)
 refine gg ?_;refine SP.jn 4 [1] 27 (.bool (((decide ((Z0.ZA.length:Int)>4))||(decide ((Z0.Methods.length:Int)>16)))||(decide (Z0.Zo<(-1))))) ?_ ?_;rotate_left
 ·refine bb 23 (fun hq9=>?_) fun hq9=>?_
  ·exact jb (Vi hq9)
  exact jb (Vj hq9 rfl)
 refine gg ?_;refine sj 7 [1] 35 ho ?_ ?_;rotate_left
 ·refine bb 28 (fun hq11=>?_) fun hq11=>?_
  ·exact jb (Vi hq11)
  exact jb (Vj hq11 rfl)
 refine gg ?_;refine cb ho (fun ho=>?_) fun ho=>?_
 ·exact fin ho hr▸rt (fun _ h=>sQ [0] (nO kb 5 h))
 refine k1 Ve.ok ho fun Kh ho v14=>?_;refine ci ho (fun ho=>?_) fun ho=>?_
 ·exact fin ho hr▸rt (fun _ h=>sQ [0] (nO kb 5 h))
 refine k1 Ve.ok ho fun t17 ho v18=>?_;refine ci ho (fun ho=>?_) fun ho=>?_
 ·exact fin ho hr▸rt (fun _ h=>sQ [0] (nO kb 5 h))
 refine dr ?_;refine(DA.phase (fun i=>Nat.ble 0 i&&Nat.blt i 8) (fun w2=>St w em hV [Z9 Z4 Z6 Z0.ZA,Z9 Z4 Za Z0.Pool,Z9 Zd Z5 Z0.Methods,Xi ZY 0 XM] [Zl b4 [Z6,Za,Z5,i6 Z0.Zo] 25] w2) ?_);refine ts 0 [2] ?_;refine ts 1 [2] ?_;refine ts 3 [2] ?_;refine ts 4 [2] ?_;refine ts 5 [2] ?_;refine ts 6 [2] ?_;obtain⟨ZgF,ho⟩:=Xn ho;refine DT.list (l2 := #[true,true,false,true,true,true,true,false,false,false]) (by kernel_rfl) ?_;refine DT.cut (ι:=Value×Value) (fun z=>[(1,pt b4),(4,v14),(56,z.1),(61,z.2)]) (fun z w2=>St w em hV [Z9 kb v18 t17.1,Z9 Z4 Z6 Z0.ZA,Z9 Z4 Za Z0.Pool,Z9 Zd Z5 Z0.Methods,Xi ZY 0 XM] [Zg kb 5 z.2 [wb (Z0.Methods.length:Int)],Zg kb 5 z.1 (Kh.1++t17.1),Zl b4 [Z6,Za,Z5,i6 Z0.Zo] 25] w2) 2 #[true,true,true,true,true,true,true,true,false,false] (fun z=>?_) (fun Zk0=>?_)
 ·obtain⟨Z9R,Z7u⟩:=z;refine dn ?_;refine d1 (h:=id) 8 ?_;refine fz 0 ?_;refine ap 0 0 ho fun Zs1 ho=>?_;refine d1 9 ?_;refine dz ?_;refine lo ho hr (fun z=>∃Js Z3V Z92,z (.l1 Js Z3V) [(1,pt b4),(4,Z92),(64,Z5),(65,i6 (Z0.Methods.length:Int)),(66,i6 Z3V)] [Zg kb 5 Z92 Js,Zl b4 [Z6,Za,Z5,i6 Z0.Zo] 25]) (fun _ z=>⟨((Kh.1++t17.1) ++ [wb (Z0.Methods.length:Int)]),0,Zs1,z⟩) ?_;rintro _ _ _ ⟨Js,Z3V,Z92,ZAl,o,_,_,ho,hr,h⟩;refine en h ?_;refine ci (hf:=id) ho (fun ho=>?_) fun ho=>?_
  ·refine ip 2 ho fun Zf6 ho ZAm=>?_;refine Zd.load see 0 rfl Tryz.underlying34 rfl Z3D.h rfl rfl rfl (fun ZAn ZAo ZAp=>?_);refine al (h:=fun _=>id) fun ZAq=>?_;refine sp (h:=id) 0 fun ZvK=>?_;refine sp (h:=id) 1 fun ZvL=>?_;refine sp 2 fun ZvM=>?_;refine st 0 ?_;refine k1 VZ.ok ho fun Z5R ho ZAr=>?_;refine ci ho (fun ho=>?_) fun ho=>?_
   ·exact fin ho hr▸rt (fun _ h=>sQ [0] (nO kb 5 h))
   refine k1 Ws.ok ho fun Z7t ho ZAs=>?_;refine ci ho (fun ho=>?_) fun ho=>?_
   ·exact fin ho hr▸rt (fun _ h=>sQ [0] (nO kb 5 h))
   refine fz 1 ?_;refine ap 2 0 ho fun ZAt ho=>?_;refine fz 0 ?_;refine ap 1 0 ho fun Zs2 ho=>?_;exact lw ho hr (fun _ z=>⟨((Js++Z5R.1)++Z7t.1),(wr (Z3V+1)),Zs2,z⟩) (sO [1,2])
  refine go ?_;refine ji hr (fun z=>∃Z5Q,z (XI.j1 Z0 Js Z5Q) [(4,Z92),(12,i8 Z5Q)] [Zg kb 5 Z92 Js]) ?_ ?_ (hb:=pe [Xi ZY 0 XM])
  ·rintro _ _ ⟨Z5Q,ZAu,o,_,ho,hr,h⟩;refine en h ?_;refine li (h:=fun _=>id) kb [Z5Q] fun ZAv=>?_;refine fz 0 ?_;refine ap 0 0 ho fun ZAw ho=>?_;exact fin ho hr▸rt (sO [0])
  refine gg ?_;refine ci ho (fun ho=>?_) fun ho=>?_
  ·exact mi ho hr (fun _ z=>⟨(wb Z0.Zo),z⟩) (sO [0])
  exact mi ho hr (fun _ z=>⟨255,z⟩) (sO [0])
 refine DT.cut (ι:=Value) (fun z=>[(1,pt b4),(4,v14),(56,z),(60,i8 (wb (Z0.Methods.length:Int)))]) (fun z w2=>St w em hV [Z9 kb v18 t17.1,Z9 Z4 Z6 Z0.ZA,Z9 Z4 Za Z0.Pool,Z9 Zd Z5 Z0.Methods,Xi ZY 0 XM] [Zg kb 5 z (Kh.1++t17.1),Zl b4 [Z6,Za,Z5,i6 Z0.Zo] 25] w2) 3 #[true,true,true,true,true,true,true,false,false,false] (fun z=>?_) (fun Zs3=>?_)
 ·rename Value=>Z9R
  refine DT.one 7 rfl (by kernel_rfl) rfl ?_;refine li kb [wb (Z0.Methods.length:Int)] fun Z7u=>?_;refine QE.Vq (fun w2 hw=>(St.V5 [1,2,3,4] rfl (sQ [2] hw))) ?_;refine DT.list (l2 := #[true,true,true,true,true,true,true,true,false,false]) (by kernel_rfl) ?_;exact DT.weak (by exact⟨rfl,rfl,rfl,rfl,trivial⟩) (by exact fun w2 hw=>hw) (Zk0 (Z9R,Z7u))
 refine DT.cut (ι:=Value) (fun z=>[(1,pt b4),(4,v14),(54,v14),(55,v18),(61,z)]) (fun z w2=>St w em hV [Z9 Z4 Z6 Z0.ZA,Z9 Z4 Za Z0.Pool,Z9 Zd Z5 Z0.Methods,Xi ZY 0 XM] [Zg kb 5 z [wb (Z0.Methods.length:Int)],Zg kb 5 v18 t17.1,Zg kb 5 v14 Kh.1,Zl b4 [Z6,Za,Z5,i6 Z0.Zo] 25] w2) 3 #[true,true,false,true,true,true,true,true,false,false] (fun z=>?_) (fun Zs4=>?_)
 ·rename Value=>Z7u
  refine DT.one 2 rfl (by kernel_rfl) rfl ?_;refine fz 1 ?_;refine SP.append see 1 rfl 0 rfl Tryz.underlying31 Z5M.h rfl rfl ZgF rfl rfl rfl rfl rfl (fun Z9R=>gg ?_);refine QE.Vq (fun w2 hw=>(St.V5 [1,2,3,4] rfl (sQ [2] hw))) ?_;refine DT.list (l2 := #[true,true,true,true,true,true,true,true,false,false]) (by kernel_rfl) ?_;exact DT.weak (by exact⟨rfl,rfl,rfl,rfl,trivial⟩) (by exact fun w2 hw=>hw) (Zk0 (Z9R,Z7u))
 refine DT.any 2 [7] (by kernel_rfl) ⟨⟨_,rfl,rfl,?_⟩,⟨_,rfl,rfl,?_⟩,trivial⟩
 ·refine fz 0 ?_;refine SP.append see 0 rfl 0 rfl Tryz.underlying31 Z5M.h rfl rfl ZgF rfl rfl rfl rfl rfl (fun Z9R=>gg ?_);refine QE.Vq (fun w2 hw=>(St.V5 [1,2,3,4] rfl (sQ [1] hw))) ?_;refine DT.list (l2 := #[true,true,true,true,true,true,true,false,false,false]) (by kernel_rfl) ?_;exact DT.weak (by exact⟨rfl,rfl,rfl,rfl,trivial⟩) (by exact fun w2 hw=>hw) (Zs3 Z9R)
 refine li kb [wb (Z0.Methods.length:Int)] fun Z7u=>?_;refine QE.Vq (fun w2 hw=>(sQ [3] hw)) ?_;refine DT.list (l2 := #[true,true,false,true,true,true,true,true,false,false]) (by kernel_rfl) ?_;exact DT.weak (by exact⟨rfl,rfl,rfl,rfl,rfl,trivial⟩) (by exact fun w2 hw=>hw) (Zs4 Z7u)
def JB.f(Z0:Zc):Option ((List Int)×Int):=
  (XI.f Z0).bind fun t6=>if t6.2≠0 then(some ([],t6.2))else(if(t6.1.length:Int)>2000 then(some ([],3))else(some (t6.1,0)))
theorem JB.ok{Z0 Z6 Za Z5}(r)(ho:JB.f Z0=some r):Ok Tryz.prog 31 [.agg #[Z6,Za,Z5,i6 Z0.Zo]] [Z9 Z4 Z6 Z0.ZA,Z9 Z4 Za Z0.Pool,Z9 Zd Z5 Z0.Methods,Xi ZY 0 XM] fun v=>HO.ex fun u0:Value=>HO.Yr (v=.tuple #[u0,i6 r.2]) (HO.Yk [Zg kb 5 u0 r.1]):=by
 refine oq 20 Tryz.func31 fun w hV see pb=>?_;refine bx fun b4=>?_;refine k1 XI.ok ho fun t6 ho v7=>?_;refine ci ho (fun ho=>?_) fun ho=>?_
 ·exact sI ho▸rt (fun _ h=>sQ [0] (nO kb 5 h))
 refine ci ho (fun ho=>?_) fun ho=>?_
 ·exact sI ho▸rt (fun _ h=>sQ [0] (nO kb 5 h))
 exact sI ho▸rt (sO [0])
def Z1r.f(Z0:Zc):Option Int:=
  (JB.f Z0).bind fun t6=>some t6.2
theorem Z1r.ok{Z0 Z6 Za Z5}(r)(ho:Z1r.f Z0=some r):Ok Tryz.prog 10 [.agg #[Z6,Za,Z5,i6 Z0.Zo]] [Z9 Z4 Z6 Z0.ZA,Z9 Z4 Za Z0.Pool,Z9 Zd Z5 Z0.Methods,Xi ZY 0 XM] fun v=>HO.pure (v=i6 r):=by
 refine oq 11 Tryz.func10 fun w hV see pb=>?_;refine bx fun b4=>?_;refine k1 JB.ok ho fun t6 ho v7=>?_;exact sI ho▸rt
inductive Xj.S where
  |start
  |l1 (x6:Int)
def Xj.F(s_0:List Int)(v_1:Int):Xj.S→Option (Xj.S⊕Int)
  | .start=>some (.inl (.l1 0))
  | .l1 x6=>if x6<(s_0.length:Int)then((elt s_0 x6).bind fun x10=>if v_1=x10 then(some (.inr x6))else(some (.inl (.l1 (IntKind.i64.wrap (x6+1))))))else(some (.inr (-1)))
def Xj.f(s_0:List Int)(v_1:Int):Option Int:=Zw (Xj.F s_0 v_1) .start
theorem Xj.ok{s_0 v_1 X4}(r)(H:Xj.f s_0 v_1=some r):Ok Tryz.prog 65 [X4,i8 v_1] [Z9 kb X4 s_0] fun v=>HO.pure (v=i6 r):=by
 refine oq 19 Tryz.func65 fun w hV see pb=>?_;obtain⟨m0,o,ho,hr⟩:=rn H;refine lo ho hr (fun z=>∃x6,z (.l1 x6) [(0,X4),(1,i8 v_1),(7,i6 (s_0.length:Int)),(8,i6 x6)] []) (fun _ z=>⟨0,z⟩) ?_;rintro _ _ _ ⟨x6,m7,o,_,_,ho,hr,h⟩;refine en h ?_;refine ci ho (fun ho=>?_) fun ho=>?_
 ·refine ip 0 ho fun x10 ho p8=>?_;refine ci ho (fun ho=>?_) fun ho=>?_
  ·exact fin ho hr▸rt
  exact lw ho hr (fun _ z=>⟨(wr (x6+1)),z⟩)
 exact fin ho hr▸rt
def Vs.f(s_0:List Int)(v_1:Int):Option Bool:=
  (Xj.f s_0 v_1).bind fun t2=>some (decide (t2≥0))
theorem Vs.ok{s_0 v_1 X4}(r)(ho:Vs.f s_0 v_1=some r):Ok Tryz.prog 33 [X4,i8 v_1] [Z9 kb X4 s_0] fun v=>HO.pure (v=.bool r):=by
 refine oq 9 Tryz.func33 fun w hV see pb=>?_;refine kv Xj.ok ho fun t2 ho=>?_;exact sI ho▸rt
def Kk.f(Z0:Zb):Option Bool:=
  (Vo.f Z0).bind fun t6=>(if t6=true then((Vs.f Z0.Args 3).bind fun t9=>some (!t9))else(some false)).bind fun t10=>some t10
theorem Kk.ok{Z0 Xu YP XH}(r)(ho:Kk.f Z0=some r):Ok Tryz.prog 11 [.agg #[Xu,YP,i8 Z0.Result,.bool Z0.Reads,i6 Z0.Fuel,i6 Z0.Stack,i6 Z0.Heap,XH]] [Z9 kb Xu Z0.Args,Z9 kb YP Z0.Zk,Z9 Z8 XH Z0.Code] fun v=>HO.pure (v=.bool r):=by
 refine oq 11 Tryz.func11 fun w hV see pb=>?_;refine bx fun b4=>?_;refine kv Vo.ok ho fun t6 ho=>?_;obtain⟨t10,Z3r,ho⟩:=bind_some ho;refine SP.jn 5 [] 10 (.bool t10) ?_ ?_
 ·clear Z3r;refine gg ?_;exact sI ho▸rt
 refine bc 5 Z3r (fun hq8 ho=>?_) fun hq8 ho=>?_
 ·refine kv Vs.ok ho fun t9 ho=>?_;obtain rfl:=sI ho;exact jn
 obtain rfl:=sI ho;exact jn
def JC.f(Z0:Zc):Option Int:=
  (if Z0.Zo≥0 then((elt Z0.Methods Z0.Zo).bind fun x10=>(Kk.f x10).bind fun t17=>some (!t17))else(some false)).bind fun Te=>if Te=true then(some 70)else(some 0)
theorem JC.ok{Z0 Z6 Za Z5}(r)(ho:JC.f Z0=some r):Ok Tryz.prog 142 [.agg #[Z6,Za,Z5,i6 Z0.Zo]] [Z9 Z4 Z6 Z0.ZA,Z9 Z4 Za Z0.Pool,Z9 Zd Z5 Z0.Methods] fun v=>HO.pure (v=i6 r):=by
 refine oq 16 Tryz.func142 fun w hV see pb=>?_;refine bx fun b4=>?_;obtain⟨Te,Z6z,ho⟩:=bind_some ho;refine sj 9 [] 15 ho ?_ ?_
 ·clear Z6z;refine gg ?_;refine cb ho (fun ho=>?_) fun ho=>?_
  ·exact sI ho▸rt
  exact sI ho▸rt
 refine bi 6 Z6z (fun VP ho=>?_) fun VP ho=>?_
 ·refine ip 2 ho fun x10 ho p8=>?_;refine Zd.load see 0 rfl Tryz.underlying34 rfl Z3D.h rfl rfl rfl (fun v11 v13 v15=>?_);refine kv Kk.ok ho fun t17 ho=>?_;obtain rfl:=sI ho;exact QE.jn fun w2 hw=>(St.V5 [4,5,6] rfl hw)
 obtain rfl:=sI ho;exact jn
def Z0W.f(Vd:Z7):Option Bool:=
  (Z1P.f Vd).bind fun t3=>some (!t3)
theorem Z0W.ok{Vd}(r)(ho:Z0W.f Vd=some r):Ok Tryz.prog 67 [.agg #[i8 Vd.Op,i6 Vd.A,i6 Vd.B]] [Xi ZY 0 XM] fun v=>HO.pure (v=.bool r):=by
 refine oq 6 Tryz.func67 fun w hV see pb=>?_;refine bx fun b1=>?_;refine kv Z1P.ok ho fun t3 ho=>?_;exact sI ho▸rt
inductive Yb.S where
  |start
  |l1 (x7:Int)
def Yb.F(s_0:List Z7):Yb.S→Option (Yb.S⊕Int)
  | .start=>some (.inl (.l1 0))
  | .l1 x7=>if x7<(s_0.length:Int)then((elt s_0 x7).bind fun Zh=>(Z0W.f Zh).bind fun t12=>if t12=true then(some (.inr x7))else(some (.inl (.l1 (IntKind.i64.wrap (x7+1))))))else(some (.inr (-1)))
def Yb.f(s_0:List Z7):Option Int:=Zw (Yb.F s_0) .start
theorem Yb.ok{s_0 X4}(r)(H:Yb.f s_0=some r):Ok Tryz.prog 128 [X4,.func (.func 67) #[] #[]] [Z9 Z8 X4 s_0,Xi ZY 0 XM] fun v=>HO.pure (v=i6 r):=by
 refine oq 19 Tryz.func128 fun w hV see pb=>?_;obtain⟨m0,o,ho,hr⟩:=rn H;refine lo ho hr (fun z=>∃x7,z (.l1 x7) [(0,X4),(1,.func (.func 67) #[] #[]),(7,i6 (s_0.length:Int)),(8,i6 x7)] []) (fun _ z=>⟨0,z⟩) ?_;rintro _ _ _ ⟨x7,m8,o,_,_,ho,hr,h⟩;refine en h ?_;refine ci ho (fun ho=>?_) fun ho=>?_
 ·refine ip 0 ho fun Zh ho p9=>?_;refine ld 0 ?_;refine kv Z0W.ok ho fun t12 ho=>?_;refine cb ho (fun ho=>?_) fun ho=>?_
  ·exact fin ho hr▸rt
  exact lw ho hr (fun _ z=>⟨(wr (x7+1)),z⟩)
 exact fin ho hr▸rt
def XP.f(s_0:List Z7):Option Bool:=
  (Yb.f s_0).bind fun t2=>some (decide (t2≥0))
theorem XP.ok{s_0 X4}(r)(ho:XP.f s_0=some r):Ok Tryz.prog 66 [X4,.func (.func 67) #[] #[]] [Z9 Z8 X4 s_0,Xi ZY 0 XM] fun v=>HO.pure (v=.bool r):=by
 refine oq 9 Tryz.func66 fun w hV see pb=>?_;refine kv Yb.ok ho fun t2 ho=>?_;exact sI ho▸rt
def TG.f(l2:List Int)(KT a1:Int):Option (Bool×(List Int)×Int):=
  if KT=4 then(some (false,l2,KT))else((elt l2 KT).bind fun x4=>some (true,l2.set KT.toNat a1,IntKind.i64.wrap (KT+1)))
theorem TG.ok(l2:List Int)(KT a1:Int)  (r:Bool×(List Int)×Int)(H:TG.f l2 KT a1=some r)(w:World)(hV:Hp)(sV:Sub hV (hp w))  (b1:Nat)(hA:Hp)(sA:Sub hA (hp w))(dA:Dj hV hA)(hI:(Z0D b1 [] (fun z:Int=>Value.int .i64 z) 4 l2 [i6 KT] 109).p hV hA) :
    XL Tryz.prog 69 [pt b1,i6 a1].toArray hA hV w (fun v=>HO.Yr (v=.bool r.1) (HO.Yk [Z0D b1 [] (fun z:Int=>Value.int .i64 z) 4 r.2.1 [i6 r.2.2] 109])):=by
 have see:YG w hA hV:=⟨sV,dA⟩
 refine XL.of (P:=Tryz.prog) (n:=⟨26,[]⟩) Tryz.func69 rfl ⟨rfl,rfl⟩ rfl (St.K6 (os:=[Z0D b1 [] (fun z:Int=>Value.int .i64 z) 4 l2 [i6 KT] 109]) sA (All.nil _) ⟨hA,em,Dj.WM _,Sub.refl _,Sub.em _,hI,trivial⟩) ?_;have ho:=H;refine gg ?_;refine SP.val (Val.Jo (k:=0) 0 rfl Tryz.underlying3 rfl rfl rfl rfl) rfl rfl rfl (gg ?_);refine ci ho (fun ho=>?_) fun ho=>?_
 ·exact sI ho▸rt (sO [0])
 refine dr ?_;refine DA.ph 0 8 ?_;refine DT.tk 0 ?_;refine DT.tk 1 ?_;refine DT.tk 2 ?_;refine DT.tk 3 ?_;refine DT.tv 4 rfl (Val.Jo (k:=0) 0 rfl Tryz.underlying3 rfl rfl rfl rfl) ?_;refine DT.tk 5 ?_;refine DT.tk 6 ?_;refine DT.tk 7 ?_;refine dn ?_;refine d1 8 ?_;obtain⟨x4,Zf7,ho⟩:=Yu ho;refine SP.val (Val.Zc0 0 rfl Tryz.underlying107 V4.h Zf7.1 Zf7.2 rfl rfl rfl) rfl rfl rfl (gg ?_);refine d1 9 ?_;refine SP.Zis 0 rfl V4.h rfl Zf7.2 rfl rfl rfl (fun _=>rfl) (fun _=>rfl) (gg ?_);refine dz ?_;refine SP.val (Val.Jo (k:=0) 0 rfl Tryz.underlying3 rfl rfl rfl rfl) rfl rfl rfl (gg ?_);refine SP.Z6p (k:=0) 0 rfl V4.h rfl rfl rfl rfl rfl rfl rfl (gg ?_);exact sI ho▸rt (sO [0])
def V8.j1(l2:List Int)(KT a1:Int)(b10:Bool):Option (Bool×(List Int)×Int):=
  if b10=true then(some (false,l2,KT))else(some (true,l2,IntKind.i64.wrap (KT-1)))
def V8.f(l2:List Int)(KT a1:Int):Option (Bool×(List Int)×Int):=
  if KT=0 then(V8.j1 l2 KT a1 true)else((elt l2 (IntKind.i64.wrap (KT-1))).bind fun x9=>V8.j1 l2 KT a1 (decide (x9≠a1)))
theorem V8.ok(l2:List Int)(KT a1:Int)  (r:Bool×(List Int)×Int)(H:V8.f l2 KT a1=some r)(w:World)(hV:Hp)(sV:Sub hV (hp w))  (b1:Nat)(hA:Hp)(sA:Sub hA (hp w))(dA:Dj hV hA)(hI:(Z0D b1 [] (fun z:Int=>Value.int .i64 z) 4 l2 [i6 KT] 109).p hV hA) :
    XL Tryz.prog 70 [pt b1,i6 a1].toArray hA hV w (fun v=>HO.Yr (v=.bool r.1) (HO.Yk [Z0D b1 [] (fun z:Int=>Value.int .i64 z) 4 r.2.1 [i6 r.2.2] 109])):=by
 have see:YG w hA hV:=⟨sV,dA⟩
 refine XL.of (P:=Tryz.prog) (n:=⟨31,[]⟩) Tryz.func70 rfl ⟨rfl,rfl⟩ rfl (St.K6 (os:=[Z0D b1 [] (fun z:Int=>Value.int .i64 z) 4 l2 [i6 KT] 109]) sA (All.nil _) ⟨hA,em,Dj.WM _,Sub.refl _,Sub.em _,hI,trivial⟩) ?_;have ho:=H;refine go ?_;refine CP.seq ?_;refine oi r (fun z=>∃b10,z (V8.j1 l2 KT a1 b10) [(0,pt b1),(23,.bool b10)] [Z0D b1 [] (fun z:Int=>Value.int .i64 z) 4 l2 [i6 KT] 109]) ?_ ?_ (hb:=pe [])
 ·rintro _ _ ⟨b10,ho,h⟩;refine en h ?_;refine cb ho (fun ho=>?_) fun ho=>?_
  ·exact sI ho▸rt (sO [0])
  refine SP.val (Val.Jo (k:=0) 0 rfl Tryz.underlying3 rfl rfl rfl rfl) rfl rfl rfl (gg ?_);refine SP.Z6p (k:=0) 0 rfl V4.h rfl rfl rfl rfl rfl rfl rfl (gg ?_);exact sI ho▸rt (sO [0])
 refine dr ?_;refine d1 0 ?_;refine d1 1 ?_;refine d1 2 ?_;refine d1 3 ?_;refine SP.val (Val.Jo (k:=0) 0 rfl Tryz.underlying3 rfl rfl rfl rfl) rfl rfl rfl (gg ?_);refine d1 4 ?_;refine d1 5 ?_;rcases TD ho with ⟨hc,ho⟩|⟨hc,ho⟩
 ·have hg4:=(decide_eq_true hc)
  clear hc;refine DA.ph 6 17 ?_;refine DT.is (d:=10) (b:=true) rfl hg4 ?_;refine DT.tn 6 ?_;refine DT.tn 7 ?_;refine DT.tn 8 ?_;refine DT.tn 9 ?_;refine DT.tn 10 ?_;refine DT.tn 11 ?_;refine DT.tn 12 ?_;refine DT.tn 13 ?_;refine DT.tn 14 ?_;refine DT.tn 15 ?_;refine DT.tn 16 ?_;refine dn ?_;refine DA.ph 17 18 ?_;refine DT.tn 17 ?_;refine dn ?_;refine d1 18 ?_;refine dz ?_;exact mo ho (fun _ z=>⟨true,z⟩)
 have hg5:=(decide_eq_false hc)
 clear hc;refine DA.ph 6 17 ?_;refine DT.is (d:=10) (b:=false) rfl hg5 ?_;refine DT.tk 6 ?_;refine DT.tk 7 ?_;refine DT.tk 8 ?_;refine DT.tk 9 ?_;refine DT.tv 10 rfl (Val.Jo (k:=0) 0 rfl Tryz.underlying3 rfl rfl rfl rfl) ?_;refine DT.tk 11 ?_;refine DT.tk 12 ?_;refine DT.tk 13 ?_;refine DT.tk 16 ?_;refine DT.one 14 rfl (by kernel_rfl) rfl ?_;obtain⟨x9,Zf8,ho⟩:=Yu ho;refine SP.val (Val.Zc0 0 rfl Tryz.underlying107 V4.h Zf8.1 Zf8.2 rfl rfl rfl) rfl rfl rfl (gg ?_);refine QE.Vq (fun w2 hw=>hw) ?_;refine DT.tv 15 rfl (Val.Zks 0 rfl Tryz.underlying3 rfl Zf8.2 rfl rfl) ?_;refine dn ?_;refine d1 17 ?_;refine d1 18 ?_;refine dz ?_;exact mo ho (fun _ z=>⟨(decide (x9≠a1)),z⟩)
def Z3v.f(Vd:Z7):Option Bool:=
  some ((decide (Vd.Op=31))||(decide (Vd.Op=32)))
theorem Z3v.ok{Vd}(r)(ho:Z3v.f Vd=some r):Ok Tryz.prog 71 [.agg #[i8 Vd.Op,i6 Vd.A,i6 Vd.B]] [] fun v=>HO.pure (v=.bool r):=by
 refine oq 11 Tryz.func71 fun w hV see pb=>?_;refine bx fun b1=>?_;refine SP.jn 4 [] 10 (.bool ((decide (Vd.Op=31))||(decide (Vd.Op=32)))) ?_ ?_
 ·refine gg ?_;exact sI ho▸rt
 refine bb 6 (fun hq4=>?_) fun hq4=>?_
 ·exact jb (Vi hq4)
 exact jb (Vj hq4 rfl)
def Kv.f(x_0:YO)(a1:Int):Option Bool:=
  some ((decide (a1>x_0.From))&&(decide (a1≤x_0.To)))
theorem Kv.ok{x_0 a1}(r)(ho:Kv.f x_0 a1=some r):Ok Tryz.prog 131 [.agg #[i6 x_0.From,i6 x_0.To,i6 x_0.Turns],i6 a1] [] fun v=>HO.pure (v=.bool r):=by
 refine oq 15 Tryz.func131 fun w hV see pb=>?_;refine bx fun b1=>?_;refine SP.jn 5 [] 14 (.bool ((decide (a1>x_0.From))&&(decide (a1≤x_0.To)))) ?_ ?_
 ·refine gg ?_;exact sI ho▸rt
 refine bb 9 (fun hq4=>?_) fun hq4=>?_
 ·exact jb (WH hq4 rfl)
 exact jb (WI hq4)
def Kl.f(x_0:YO)(Z0F Zf9 Z0G Zfa:Int):Option Bool:=
  (Kv.f x_0 Zf9).bind fun t11=>(if t11=true then((Kv.f x_0 Zfa).bind fun t14=>some (!t14))else(some false)).bind fun Kj=>some Kj
theorem Kl.ok{x_0 Z0F Zf9 Z0G Zfa b4 b7}(r)(ho:Kl.f x_0 Z0F Zf9 Z0G Zfa=some r):Ok Tryz.prog 130 [.agg #[i6 x_0.From,i6 x_0.To,i6 x_0.Turns],pt b4,pt b7] [Ku b4 [i8 Z0F,i6 Zf9,i6 Z0G] 43,Ku b7 [i6 Zfa] 3] fun v=>HO.pure (v=.bool r):=by
 refine oq 15 Tryz.func130 fun w hV see pb=>?_;refine bx (h:=fun _=>id) fun b9=>?_;refine SP.val (Val.assign rfl) rfl rfl rfl ?_;refine SP.nil ?_;refine QE.then ?_
 refine CP.seq ?_;refine CP.region ?_;refine SP.val (Val.ZeI 0 rfl Tryz.underlying111 rfl Zbr.h rfl rfl rfl) rfl rfl rfl ?_;refine SP.val (Val.fieldAddr Tryz.underlying43 rfl V4.h rfl) rfl rfl rfl ?_;refine SP.val (Val.Z5h see 0 rfl Tryz.underlying3 rfl rfl rfl) rfl rfl rfl ?_;refine kv Kv.ok ho fun t11 ho=>?_;obtain⟨Kj,Z3w,ho⟩:=bind_some ho;refine SP.jn 5 [] 14 (.bool Kj) ?_ ?_
 ·clear Z3w;refine gg ?_;exact sI ho▸rt
 refine bc (ht:=id) 9 Z3w (fun Z31 ho=>?_) fun Z31 ho=>?_
 ·refine SP.val (Val.ZeI 0 rfl Tryz.underlying111 rfl Zbr.h rfl rfl rfl) rfl rfl rfl ?_;refine SP.val (Val.Z5h see 1 rfl Tryz.underlying3 rfl rfl rfl) rfl rfl rfl ?_;refine kv Kv.ok ho fun t14 ho=>?_;obtain rfl:=sI ho;exact jn
 obtain rfl:=sI ho;exact jn
inductive Yc.S where
  |start
  |l1 (Uh:Int)
def Yc.F(s_0:List YO)(Vy Z2w Vz Z2x:Int):Yc.S→Option (Yc.S⊕Int)
  | .start=>some (.inl (.l1 0))
  | .l1 Uh=>if Uh<(s_0.length:Int)then((elt s_0 Uh).bind fun x19=>(Kl.f x19 Vy Z2w Vz Z2x).bind fun t20=>if t20=true then(some (.inr Uh))else(some (.inl (.l1 (IntKind.i64.wrap (Uh+1))))))else(some (.inr (-1)))
def Yc.f(s_0:List YO)(Vy Z2w Vz Z2x:Int):Option Int:=Zw (Yc.F s_0 Vy Z2w Vz Z2x) .start
theorem Yc.ok{s_0 Vy Z2w Vz Z2x X4 b5 b8}(r)(H:Yc.f s_0 Vy Z2w Vz Z2x=some r):Ok Tryz.prog 190 [X4,.func (.func 130) #[] #[pt b5,pt b8]] [Z9 Vt X4 s_0,Ku b5 [i8 Vy,i6 Z2w,i6 Vz] 43,Ku b8 [i6 Z2x] 3] fun v=>HO.pure (v=i6 r):=by
 refine oq 19 Tryz.func190 fun w hV see pb=>?_;obtain⟨m0,o,ho,hr⟩:=rn H;refine lo ho hr (fun z=>∃Uh,z (.l1 Uh) [(0,X4),(1,.func (.func 130) #[] #[pt b5,pt b8]),(7,i6 (s_0.length:Int)),(8,i6 Uh)] []) (fun _ z=>⟨0,z⟩) ?_;rintro _ _ _ ⟨Uh,m16,o,_,_,ho,hr,h⟩;refine en h ?_;refine ci ho (fun ho=>?_) fun ho=>?_
 ·refine ip 0 ho fun x19 ho p17=>?_;refine ld 0 ?_;refine kv Kl.ok ho fun t20 ho=>?_;refine cb ho (fun ho=>?_) fun ho=>?_
  ·exact fin ho hr▸rt
  exact lw ho hr (fun _ z=>⟨(wr (Uh+1)),z⟩)
 exact fin ho hr▸rt
def YS.f(s_0:List YO)(Vy Z2w Vz Z2x:Int):Option Bool:=
  (Yc.f s_0 Vy Z2w Vz Z2x).bind fun t10=>some (decide (t10≥0))
theorem YS.ok{s_0 Vy Z2w Vz Z2x X4 b5 b8}(r)(ho:YS.f s_0 Vy Z2w Vz Z2x=some r):Ok Tryz.prog 132 [X4,.func (.func 130) #[] #[pt b5,pt b8]] [Z9 Vt X4 s_0,Ku b5 [i8 Vy,i6 Z2w,i6 Vz] 43,Ku b8 [i6 Z2x] 3] fun v=>HO.pure (v=.bool r):=by
 refine oq 9 Tryz.func132 fun w hV see pb=>?_;refine kv Yc.ok ho fun t10 ho=>?_;exact sI ho▸rt
inductive WK.S where
  |start
  |l1 (x27:Int)
def WK.j1(ZC:List Z7)(Z0x:List YO)(x27:Int):Option (WK.S⊕Bool):=
  some (.inl (.l1 (IntKind.i64.wrap (x27+1))))
def WK.F(ZC:List Z7)(Z0x:List YO):WK.S→Option (WK.S⊕Bool)
  | .start=>some (.inl (.l1 0))
  | .l1 x27=>if x27<(ZC.length:Int)then((elt ZC x27).bind fun x31=>if((decide (x31.Op≠26))&&(decide (x31.Op≠27)))=true then(WK.j1 ZC Z0x x27)else((if((decide (x31.A≤x27))||(decide (x31.A≥(ZC.length:Int))))=true then(some true)else((YS.f Z0x x31.Op x31.A x31.B x27).bind fun t49=>some t49)).bind fun t50=>if t50=true then(some (.inr false))else(WK.j1 ZC Z0x x27)))else(some (.inr true))
def WK.f(ZC:List Z7)(Z0x:List YO):Option Bool:=Zw (WK.F ZC Z0x) .start
theorem WK.ok{ZC Z0x Yt Z4X}(r)(H:WK.f ZC Z0x=some r):Ok Tryz.prog 72 [Yt,Z4X] [Z9 Z8 Yt ZC,Z9 Vt Z4X Z0x] fun v=>HO.pure (v=.bool r):=by
 refine oq 41 Tryz.func72 fun w hV see pb=>?_;obtain⟨m0,o,ho,hr⟩:=rn H;refine lo ho hr (fun z=>∃x27,z (.l1 x27) [(0,Yt),(1,Z4X),(8,Yt),(9,i6 (ZC.length:Int)),(10,i6 x27)] []) (fun _ z=>⟨0,z⟩) ?_;rintro _ _ _ ⟨x27,m28,o,_,_,ho,hr,h⟩;refine en h ?_;refine ci (ht:=id) ho (fun ho=>?_) fun ho=>?_;rotate_left
 ·exact fin ho hr▸rt
 refine go ?_;refine ji hr (fun z=>z (WK.j1 ZC Z0x x27) [(0,Yt),(1,Z4X),(8,Yt),(9,i6 (ZC.length:Int)),(10,i6 x27)] []) ?_ ?_
 ·rintro _ _ ⟨m51,o,_,ho,hr,h⟩;refine en h ?_;exact lw ho hr (fun _ z=>⟨(wr (x27+1)),z⟩)
 refine gg ?_;refine ip 0 ho fun x31 ho p29=>?_;refine ld 0 ?_;refine al fun b32=>?_;refine al fun b34=>?_;refine st 1 ?_;refine st 0 ?_;refine sj 4 [0,1,8,9,10,5,6] 22 ho ?_ ?_;rotate_left
 ·refine bb 18 (fun Z4p=>?_) fun Z4p=>?_
  ·exact jb (WH Z4p rfl)
  exact jb (WI Z4p)
 refine gg ?_;refine cb ho (fun ho=>?_) fun ho=>?_
 ·exact mi ho hr (fun _ z=>z) (sO [])
 refine SP.jn 6 [0,1,8,9,10,7] 34 (.bool ((decide (x31.A≤x27))||(decide (x31.A≥(ZC.length:Int))))) ?_ ?_;rotate_left
 ·refine bb 28 (fun Z8h=>?_) fun Z8h=>?_
  ·exact jb (Vi Z8h)
  exact jb (Vj Z8h rfl)
 refine gg ?_;refine SP.Z2V see 0 rfl ?_;refine SP.Z2V see 0 rfl ?_;obtain⟨t50,ZgG,ho⟩:=bind_some ho;refine sj 4 [0,1,8,9,10] 39 ho ?_ ?_
 ·clear ZgG;refine gg ?_;refine cb ho (fun ho=>?_) fun ho=>?_
  ·exact fin ho hr▸rt
  exact mi ho hr (fun _ z=>z)
 refine bc 35 ZgG (fun ZvN ho=>?_) fun ZvN ho=>?_
 ·obtain rfl:=sI ho;exact jn
 refine kv YS.ok ho fun t49 ho=>?_;obtain rfl:=sI ho;exact jn
shelf_lay_g SlLaysF0.n6 Slsf 6 at Tryz 73 as Tryz.sort73
shelf_lay_g SlLaysC2.n5 Slgc 5 at Tryz 75 as Tryz.cmp75
shelf_lay Lays.n125 Nm 125 at Tryz as Tryz.bitsLen97
instance:Inhabited YO:=⟨YO.zero⟩
def Z7v(x:YO):List Value:=[.int .i64 x.From,.int .i64 x.To,.int .i64 x.Turns]
def Z5S(x y:YO):Int:=Lib.compareInt x.From y.From
theorem Zfb(x y:YO):Go.Proofs.ltOf Z5S x y=decide (x.From<y.From):=by
  unfold Go.Proofs.ltOf Z5S Lib.compareInt;by_cases h1:x.From<y.From
  · simp[h1]
  · by_cases h2:y.From<x.From<;>simp[h1,h2]
theorem Zk1:Go.Sort.SWO (Go.Proofs.ltOf Z5S) where
  irrefl x:=by rw[Zfb];simp
  trans x y z h1 h2:=by rw[Zfb]at *;simp at *;omega
  ntrans x y z h1 h2:=by rw[Zfb]at *;simp at *;omega
set_option maxHeartbeats 1000000 in
theorem ZmO(x y:YO)(W:World):Calls Tryz.prog 74 #[.agg (Z7v x).toArray,.agg (Z7v y).toArray] W fun e w'=>e=.returned (.int .i64 (Z5S x y))∧∃q os',w'=Go.Sort.grow (W.drewN q) os':=by
  have hcon:=fun W'=>Go.Proofs.AnyG.cmp_Compare_int Tryz.cmp75 x.From y.From W';change ∀W',Calls Tryz.prog 75 _ _ _ at hcon;unfold Z5S Z7v;generalize Lib.compareInt x.From y.From=r at hcon ⊢
  go_enter Tryz.func74,Tryz.ntmps74
  go_wp2_with (go_at_call 75;refine(hcon _).mono ?_;rintro e w' ⟨rfl,rfl⟩)
  go_ret
  exact⟨rfl,0,_,by rw[Go.Sort.alloc_eq_grow,Go.Sort.alloc_eq_grow,Go.Sort.grow_grow];rfl⟩
def Z0b(d:Array YO):Array YO:=Go.Sort.pdq (Go.Proofs.ltOf Z5S) d 0 d.size (Lib.bitLen d.size) true true
theorem Z7U(d:Array YO):Go.Sort.PermIn 0 d.size d (Z0b d)∧Go.Sort.SortedIn (Go.Proofs.ltOf Z5S) 0 d.size (Z0b d):=
  Go.Sort.pdq_sorts (Go.Proofs.ltOf Z5S) Zk1 d 0 d.size (Lib.bitLen d.size) true true (Nat.zero_le _) (Nat.le_refl _) (Or.inl rfl)
theorem ZgH(F:Value)(w:World):Calls Tryz.prog 191 #[.slice none 0 0,.int .i64 0,.int .i64 0,F] w fun e w'=>e=.returned (.tuple #[])∧w'=w:=by
  go_enter Tryz.func191,Tryz.ntmps191
  go_wp2
  refine wp_loop_rounds 1 ?_;rw[rounds_succ]
  go_wp2
  go_end0
  exact⟨rfl,rfl⟩
theorem ZgI(F:Value)(w:World):Calls Tryz.prog 133 #[.slice none 0 0,.int .i64 0,.int .i64 0,.int .i64 0,F] w fun e w'=>e=.returned (.tuple #[])∧w'=w:=by
  have hi:=ZgH F w
  go_enter Tryz.func133,Tryz.ntmps133
  go_wp2
  refine wp_loop_rounds 1 ?_;rw[rounds_succ]
  go_wp2_with (go_at_call 191;refine hi.mono ?_;rintro e w' ⟨rfl,rfl⟩)
  (try simp only[Exit.inBlock,Exit.then]);refine bodyPost_ret (results_none rfl _ _ _) rfl ?_
  exact⟨rfl,rfl⟩
theorem ZgJ(F:Value)(w:World):Calls Tryz.prog 73 #[.slice none 0 0,F] w fun e w'=>e=.returned (.tuple #[])∧w'=w:=by
  have hi:=ZgI F w;have hl:Calls Tryz.prog 97 #[.int .u64 0] w fun e w'=>e=.returned (.int .i64 0)∧w'=w:=by
    have h:=Any.bits_Len Tryz.bitsLen97 0 w (by omega) (by omega);exact h
  go_enter Tryz.func73,Tryz.ntmps73
  go_wp2_with (first|(go_at_call 97;refine hl.mono ?_;rintro e w' ⟨rfl,rfl⟩)|(go_at_call 133;refine hi.mono ?_;rintro e w' ⟨rfl,rfl⟩))
  go_end0
  exact⟨rfl,rfl⟩
theorem Zfc(F:Value)(w:World)(hV:Hp):XL Tryz.prog 73 #[.slice none 0 0,F] em hV w (fun v=>HO.pure (v=.tuple #[])):=
  (ZgJ F w).mono fun e w' ⟨he,hw⟩=>by
    subst hw;exact⟨_,he,Met.refl _,fun _ _ e _=>e,em,em,fun _ _ _=>rfl,fun _ _ _=>rfl,Dj.YM _,Sub.em _,Sub.em _,rfl⟩
theorem Zfd{v:Value}{l:List YO}(hll:l.length<4611686018427387904){w:World}{hP h1:Hp}(sub:Sub hP (hp w))(s1:Sub h1 (hp w))(dj:Dj hP h1)(hI:(Zg Vt 111 v l).p hP h1) :
    XL Tryz.prog 73 #[v,.func (.func 74) #[] #[]] h1 hP w (fun r=>HO.Yr (r=.tuple #[]) (HO.Yk [Zg Vt 111 v (Z0b l.toArray).toList])):=by
  refine Zg.Z7n (fun v => #[v,.func (.func 74) #[] #[]]) (fun _ =>.tuple #[]) Z7v (fun h cs x=>Iff.rfl) Z0b (fun d=>(Z7U d).1.1) (fun blk cap d w hH hb hsz _ _=>?_) (fun _ w hV sV=>?_) hll sub s1 dj hI
  · exact AnyQ.slices_SortFunc_eq Tryz.sort73 3 Tryz.isAgg111 Tryz.sizeOf111 Z7v (fun _=>rfl) (fun x v hv=>by simp[Z7v]at hv;rcases hv with rfl|rfl|rfl<;>rfl) Z5S Zk1 74 #[] blk 0 cap d w (enters_of Tryz.func74 (by kernel_rfl) rfl) (fun _ _ _ _ x y=>ZmO x y _) hH hb hsz
  · exact Zfc _ w hV
inductive Yq.S where
  |start
  |l1 (l52:List Int) (x53:Int) (l55:List YO) (JZ:Int)
def Yq.j1(ZC:List Z7)  : Option (Yq.S⊕((List YO)×Int)):=
  some (.inr ([],90))
def Yq.j2(ZC:List Z7)(JZ:Int)(l80:List Int)(x81:Int)(l83:List YO):Option (Yq.S⊕((List YO)×Int)):=
  some (.inl (.l1 l80 x81 l83 (IntKind.i64.wrap (JZ+1))))
def Yq.F(ZC:List Z7):Yq.S→Option (Yq.S⊕((List YO)×Int))
  | .start=>(if((decide ((ZC.length:Int)=0))||(decide ((ZC.length:Int)>200)))=true then(some true)else((XP.f ZC).bind fun t6=>some t6)).bind fun t7=>if t7=true then(some (.inr ([],40)))else(some (.inl (.l1 (List.replicate 4 0:List Int) 0 [] 0)))
  | .l1 l52 x53 l55 JZ=>if JZ<(ZC.length:Int)then((elt ZC JZ).bind fun Tk=>if Tk.Op=28 then((TG.f l52 x53 JZ).bind fun t64=>if(!t64.1)=true then(Yq.j1 ZC)else(Yq.j2 ZC JZ t64.2.1 t64.2.2 l55))else(if Tk.Op=29 then((V8.f l52 x53 Tk.A).bind fun t65=>if(!t65.1)=true then(Yq.j1 ZC)else((elt ZC Tk.A).bind fun U9=>if(l55.length + [(⟨Tk.A,JZ,U9.A⟩:YO)].length)*24≤140737488355328 then(Yq.j2 ZC JZ t65.2.1 t65.2.2 (l55 ++ [(⟨Tk.A,JZ,U9.A⟩:YO)]))else none))else(Yq.j2 ZC JZ l52 x53 l55)))else((if x53>0 then(some true)else((elt ZC (IntKind.i64.wrap ((ZC.length:Int)-1))).bind fun x90=>(Z3v.f x90).bind fun t91=>some (!t91))).bind fun Vv=>(if Vv=true then(some true)else((WK.f ZC l55).bind fun t95=>some (!t95))).bind fun t96=>if t96=true then(Yq.j1 ZC)else(if l55.length<4611686018427387904 then(some (.inr ((Z0b l55.toArray).toList,0)))else none))
def Yq.f(ZC:List Z7):Option ((List YO)×Int):=Zw (Yq.F ZC) .start
theorem Yq.ok{ZC Yt}(r)(H:Yq.f ZC=some r):Ok Tryz.prog 34 [Yt] [Z9 Z8 Yt ZC,Xi ZY 0 XM] fun v=>HO.ex fun u0:Value=>HO.Yr (v=.tuple #[u0,i6 r.2]) (HO.Yk [Zg Vt 111 u0 r.1]):=by
 refine oq 76 Tryz.func34 fun w hV see pb=>?_;obtain⟨m0,o,ho,hr⟩:=rn H;refine CP.scope 0 (fun a w2=>∃(Zfe:Nat) (o:(Yq.S⊕((List YO)×Int))),Zfe≤m0∧Yq.j1 ZC=some o∧next (Yq.F ZC) Zfe o=some r∧Env ⟨76,[]⟩ [] a∧St w em hV [Xi ZY 0 XM] [] w2) rfl (fun _ _ _ h=>h) ?_ ?_
 ·rintro a w2 ⟨Zfe,o,ZwH,ho,hr,ha,hw⟩;refine CP.app ha hw ?_;clear ha hw a w2;refine gg ?_;exact fin ho hr▸rt (fun _ h=>sQ [0] (nO Vt 111 h))
 refine gg ?_;refine SP.jn 4 [0] 15 (.bool ((decide ((ZC.length:Int)=0))||(decide ((ZC.length:Int)>200)))) ?_ ?_;rotate_left
 ·refine bb 11 (fun hq3=>?_) fun hq3=>?_
  ·exact jb (Vi hq3)
  exact jb (Vj hq3 rfl)
 refine gg ?_;obtain⟨t7,Z91,ho⟩:=bind_some ho;refine sj 3 [0] 19 ho ?_ ?_;rotate_left
 ·refine bc 16 Z91 (fun UF ho=>?_) fun UF ho=>?_
  ·obtain rfl:=sI ho;exact jn
  refine kv XP.ok ho fun t6 ho=>?_;obtain rfl:=sI ho;exact jn
 clear Z91;refine gg ?_;refine cb ho (fun ho=>?_) fun ho=>?_
 ·refine QE.Z5k rfl ?_;exact fin ho hr▸rt (fun _ h=>sQ [0] (nO Vt 111 h))
 refine al fun b9=>?_;refine lo ho hr (fun z=>∃l52 x53 l55 JZ v56,z (.l1 l52 x53 l55 JZ) [(0,Yt),(4,v56),(5,pt b9),(20,Yt),(21,i6 (ZC.length:Int)),(22,i6 JZ)] [Zg Vt 111 v56 l55,Z0D b9 [] (fun z:Int=>Value.int .i64 z) 4 l52 [i6 x53] 109]) (fun _ z=>⟨(List.replicate 4 0:List Int),0,[],0,nl,z⟩) ?_ (fun _ hw=>(nO Vt 111 (St.arr (f:=(fun z:Int=>Value.int .i64 z)) 0 rfl (List.replicate 4 0:List Int) [] [i6 0] rfl rfl hw)));rintro _ _ _ ⟨l52,x53,l55,JZ,v56,m58,o,_,_,ho,hr,h⟩;refine en h ?_;refine ci (ht:=id) ho (fun ho=>?_) fun ho=>?_;rotate_left
 ·refine SP.val (Val.Jo (k:=0) 1 rfl Tryz.underlying3 rfl rfl rfl rfl) rfl rfl rfl (gg ?_);obtain⟨Vv,ZgL,ho⟩:=bind_some ho;refine SP.jn 9 [0,4] 66 (.bool Vv) ?_ ?_;rotate_left
  ·refine bi 57 ZgL (fun ZvO ho=>?_) fun ZvO ho=>?_
   ·obtain rfl:=sI ho;exact jn
   refine ip 0 ho fun x90 ho p88=>?_;refine ld 0 ?_;refine kv Z3v.ok ho fun t91 ho=>?_;obtain rfl:=sI ho;exact QE.jn fun w2 hw=>(St.V5 [1,2] rfl hw)
  clear ZgL;refine gg ?_;obtain⟨t96,ZgM,ho⟩:=bind_some ho;refine sj 5 [4] 72 ho ?_ ?_
  ·clear ZgM;refine gg ?_;refine cb ho (fun ho=>?_) fun ho=>?_
   ·refine CP.goto (gg ?_);exact QE.jump fun a w2 ha hw=>⟨m58,_,(by omega),ho,hr,ha.sub trivial,(St.V5 [1] rfl (sQ [] hw))⟩
   obtain⟨hb,ho⟩:=Xn ho;refine SP.Wy see (caps:=[]) (fun r=>HO.Yr (r=.tuple #[]) (HO.Yk [Zg Vt 111 v56 ((Z0b l55.toArray).toList)])) ZtZ.h rfl rfl rfl rfl (fun w2 hP h1 sub s1 d1 ap hI=>Zfd hb sub s1 d1 hI) (SP.k0 ?_);clear hb;refine gg ?_;refine QE.Z5k rfl ?_;exact fin ho hr▸rt (sO [0])
  refine bc 67 ZgM (fun Zcj ho=>?_) fun Zcj ho=>?_
  ·obtain rfl:=sI ho;exact jn
  obtain⟨t95,hc,ho⟩:=bind_some ho;refine SP.Z0m see (caps:=[]) (.bool t95) ZtY.h rfl rfl rfl rfl (fun w2 hs=>WK.ok _ hc w2 (hp w2) (Sub.refl _) (aS ((St.Ur 0 rfl see.sub see.dj hs)) (aS (Zg.read (St.own 0 rfl see.sub see.dj hs) (Sub.refl _) (Sub.refl _)) (All.nil _)))) ?_;clear hc;refine gg ?_;obtain rfl:=sI ho;exact jn
 refine go ?_;refine ji hr (fun z=>∃l80 x81 l83 v84,z (Yq.j2 ZC JZ l80 x81 l83) [(0,Yt),(4,v84),(5,pt b9),(20,Yt),(21,i6 (ZC.length:Int)),(22,i6 JZ)] [Zg Vt 111 v84 l83,Z0D b9 [] (fun z:Int=>Value.int .i64 z) 4 l80 [i6 x81] 109]) ?_ ?_
 ·rintro _ _ ⟨l80,x81,l83,v84,m85,o,_,ho,hr,h⟩;refine en h ?_;exact lw ho hr (fun _ z=>⟨l80,x81,l83,(wr (JZ+1)),v84,z⟩)
 refine gg ?_;refine ip 0 ho fun Tk ho p59=>?_;refine ld 0 ?_;refine al fun b62=>?_;refine st 0 ?_;refine ci ho (fun ho=>?_) fun ho=>?_
 ·refine so [2,0,1] ?_;obtain⟨t64,hc,ho⟩:=bind_some ho;refine SP.Wy see (caps:=[]) _ ZtW.h rfl rfl rfl rfl (fun w2 hP h1 sub s1 d1 ap hI=>TG.ok _ _ _  _ hc w2 hP sub  _ h1 s1 d1 hI) (SP.k0 ?_);clear hc;refine gg ?_;refine cb ho (fun ho=>?_) fun ho=>?_
  ·refine CP.goto ?_;refine QE.Z5l ?_;refine QE.Z5l (gg ?_);refine QE.Z5l (gg ?_);exact QE.jump fun a w2 ha hw=>⟨m58,_,(by omega),ho,hr,ha.sub trivial,(St.V5 [2] rfl (sQ [] hw))⟩
  exact mi ho hr (fun _ z=>⟨t64.2.1,t64.2.2,l55,v56,z⟩) (sO [2,0])
 refine ci ho (fun ho=>?_) fun ho=>?_;rotate_left
 ·exact mi ho hr (fun _ z=>⟨l52,x53,l55,v56,z⟩) (sO [1,2])
 refine so [2,0,1] ?_;obtain⟨t65,hc,ho⟩:=bind_some ho;refine SP.Wy see (caps:=[]) _ ZtX.h rfl rfl rfl rfl (fun w2 hP h1 sub s1 d1 ap hI=>V8.ok _ _ _  _ hc w2 hP sub  _ h1 s1 d1 hI) (SP.k0 ?_);clear hc;refine gg ?_;refine cb ho (fun ho=>?_) fun ho=>?_
 ·refine CP.goto (gg ?_);refine QE.Z5l ?_;refine QE.Z5l (gg ?_);refine QE.Z5l (gg ?_);exact QE.jump fun a w2 ha hw=>⟨m58,_,(by omega),ho,hr,ha.sub trivial,(St.V5 [2] rfl (sQ [] hw))⟩
 refine dr ?_;refine ge 1 ho fun U9 ho p66 Z94=>?_;refine DA.ghost (fun w2 h=>h.Jv see 0 rfl Z8.Je) (fun p69 Zff=>?_);refine gu 0 ?_;refine DA.ph 0 12 ?_;refine DT.tk 0 ?_;refine DT.tk 1 ?_;refine DT.tk 2 ?_;refine DT.tk 3 ?_;refine DT.tk 4 ?_;refine DT.tk 5 ?_;refine DT.tk 6 ?_;refine DT.tv 7 rfl (Val.ie rfl rfl Z94) ?_;refine DT.tv 8 rfl (Val.fe rfl Zff) ?_;refine tk 9 ?_;refine DT.tv 10 rfl (Val.Z8K (us:=[(0,i6 Tk.A),(1,i6 JZ),(2,i6 U9.A)]) (ucs:=[(0,[i6 Tk.A]),(1,[i6 JZ]),(2,[i6 U9.A])]) (cs:=[i6 Tk.A,i6 JZ,i6 U9.A]) Zpd.h rfl rfl ⟨rfl,rfl,⟨rfl,rfl,⟨rfl,rfl,trivial⟩⟩⟩ (by rfl)) ?_;refine DT.one 11 rfl (by kernel_rfl) rfl ?_;refine li Vt [(⟨Tk.A,JZ,U9.A⟩:YO)] fun v76=>?_;refine QE.Vq (fun w2 hw=>(sQ [1,2,3] hw)) ?_;refine dn ?_;refine d1 (h:=id) 12 ?_;refine fz 0 ?_;refine ap 2 0 ho fun v78 ho=>?_;refine d1 13 ?_;refine dz ?_;exact mi ho hr (fun _ z=>⟨t65.2.1,t65.2.2,(l55 ++ [(⟨Tk.A,JZ,U9.A⟩:YO)]),v78,z⟩) (sO [2,0])
def UN.f(ZC:List Z7):Option Int:=
  (Yq.f ZC).bind fun t2=>some t2.2
theorem UN.ok{ZC Yt}(r)(ho:UN.f ZC=some r):Ok Tryz.prog 12 [Yt] [Z9 Z8 Yt ZC,Xi ZY 0 XM] fun v=>HO.pure (v=i6 r):=by
 refine oq 11 Tryz.func12 fun w hV see pb=>?_;refine k1 Yq.ok ho fun t2 ho v3=>?_;exact sI ho▸rt
def Yx.j1(KD KE:List Zp)(KF:List Zb)(Jh:Int)(YD K8:List Int)(K9:Int)(Yg:Bool)(Yl Ym Yn:Int)(Yo:List Z7)(Tm:List Int)(YE:Z7)(x27:Int):Option Bool:=
  some (decide (YE.A<x27))
def Yx.j3(KD KE:List Zp)(KF:List Zb)(Jh:Int)(YD K8:List Int)(K9:Int)(Yg:Bool)(Yl Ym Yn:Int)(Yo:List Z7)(Tm:List Int)(YE:Z7)(KM:Bool):Option Bool:=
  if KM=true then(Yx.j1 KD KE KF Jh YD K8 K9 Yg Yl Ym Yn Yo Tm YE (KD.length:Int))else(if YE.Op=30 then(Yx.j1 KD KE KF Jh YD K8 K9 Yg Yl Ym Yn Yo Tm YE (KF.length:Int))else(some true))
def Yx.j2(KD KE:List Zp)(KF:List Zb)(Jh:Int)(YD K8:List Int)(K9:Int)(Yg:Bool)(Yl Ym Yn:Int)(Yo:List Z7)(Tm:List Int)(YE:Z7)(b25:Bool):Option Bool:=
  if b25=true then(Yx.j1 KD KE KF Jh YD K8 K9 Yg Yl Ym Yn Yo Tm YE (Tm.length:Int))else(if YE.Op=4 then(Yx.j3 KD KE KF Jh YD K8 K9 Yg Yl Ym Yn Yo Tm YE (decide (YE.Op=4)))else(Yx.j3 KD KE KF Jh YD K8 K9 Yg Yl Ym Yn Yo Tm YE (decide (YE.Op=5))))
def Yx.f(KD KE:List Zp)(KF:List Zb)(Jh:Int)(YD K8:List Int)(K9:Int)(Yg:Bool)(Yl Ym Yn:Int)(Yo:List Z7)(Tm:List Int)(YE:Z7):Option Bool:=
  if YE.Op=1 then(Yx.j1 KD KE KF Jh YD K8 K9 Yg Yl Ym Yn Yo Tm YE (KE.length:Int))else(if YE.Op=2 then(Yx.j2 KD KE KF Jh YD K8 K9 Yg Yl Ym Yn Yo Tm YE (decide (YE.Op=2)))else(Yx.j2 KD KE KF Jh YD K8 K9 Yg Yl Ym Yn Yo Tm YE (decide (YE.Op=3))))
theorem Yx.ok{KD KE KF Jh YD K8 K9 Yg Yl Ym Yn Yo Tm YE Ze4 Ze5 Ze6 Ze7 Zcm Zcn Zco b21}(r)(ho:Yx.f KD KE KF Jh YD K8 K9 Yg Yl Ym Yn Yo Tm YE=some r):Ok Tryz.prog 78 [pt b21,.agg #[i8 YE.Op,i6 YE.A,i6 YE.B]] [Z9 Z4 Ze4 KD,Z9 Z4 Ze5 KE,Z9 Zd Ze6 KF,Z9 kb Ze7 YD,Z9 kb Zcm K8,Z9 Z8 Zcn Yo,Z9 kb Zco Tm,Z6u b21 [Ze4,Ze5,Ze6,i6 Jh,Ze7,Zcm,i8 K9,.bool Yg,i6 Yl,i6 Ym,i6 Yn,Zcn,Zco] 122] fun v=>HO.pure (v=.bool r):=by
 refine oq 45 Tryz.func78 fun w hV see pb=>?_;refine bx (h:=fun _=>id) fun b23=>?_;refine go ?_;refine oi r (fun z=>∃x27,z (Yx.j1 KD KE KF Jh YD K8 K9 Yg Yl Ym Yn Yo Tm YE x27) [(3,pt b23),(5,i6 x27)] [Zl b23 [i8 YE.Op,i6 YE.A,i6 YE.B] 43]) ?_ ?_ (hb:=pe [])
 ·rintro _ _ ⟨x27,ho,h⟩;refine en h ?_;exact sI ho▸rt
 refine gg ?_;refine ci (hf:=id) ho (fun ho=>?_) fun ho=>?_
 ·refine SP.val (Val.Z5F see 7 rfl Tryz.underlying22 rfl rfl rfl) rfl rfl rfl (gg ?_);exact mo ho (fun _ z=>⟨(KE.length:Int),z⟩)
 refine oi r (fun z=>∃b25,z (Yx.j2 KD KE KF Jh YD K8 K9 Yg Yl Ym Yn Yo Tm YE b25) [(0,pt b21),(3,pt b23),(7,i8 YE.Op),(16,.bool b25)] [Zl b23 [i8 YE.Op,i6 YE.A,i6 YE.B] 43]) ?_ ?_;rotate_left
 ·refine gg ?_;refine ci ho (fun ho=>?_) fun ho=>?_
  ·exact mo ho (fun _ z=>⟨(decide (YE.Op=2)),z⟩)
  exact mo ho (fun _ z=>⟨(decide (YE.Op=3)),z⟩)
 rintro _ _ ⟨b25,ho,h⟩;refine en h ?_;refine cb (hf:=id) ho (fun ho=>?_) fun ho=>?_
 ·refine SP.val (Val.Z5F see 7 rfl Tryz.underlying31 rfl rfl rfl) rfl rfl rfl (gg ?_);exact mo ho (fun _ z=>⟨(Tm.length:Int),z⟩)
 refine oi r (fun z=>∃KM,z (Yx.j3 KD KE KF Jh YD K8 K9 Yg Yl Ym Yn Yo Tm YE KM) [(0,pt b21),(3,pt b23),(7,i8 YE.Op),(24,.bool KM)] [Zl b23 [i8 YE.Op,i6 YE.A,i6 YE.B] 43]) ?_ ?_
 ·rintro _ _ ⟨KM,ho,h⟩;refine en h ?_;refine cb ho (fun ho=>?_) fun ho=>?_
  ·refine SP.val (Val.Z5F see 7 rfl Tryz.underlying22 rfl rfl rfl) rfl rfl rfl (gg ?_);exact mo ho (fun _ z=>⟨(KD.length:Int),z⟩)
  refine ci ho (fun ho=>?_) fun ho=>?_
  ·refine SP.val (Val.Z5F see 7 rfl Tryz.underlying23 rfl rfl rfl) rfl rfl rfl (gg ?_);exact mo ho (fun _ z=>⟨(KF.length:Int),z⟩)
  exact sI ho▸rt
 refine gg ?_;refine ci ho (fun ho=>?_) fun ho=>?_
 ·exact mo ho (fun _ z=>⟨(decide (YE.Op=4)),z⟩)
 exact mo ho (fun _ z=>⟨(decide (YE.Op=5)),z⟩)
def Ji.f(Vd:Z7)(Z0F Z0G:List Zp)(Z1H:List Zb)(Z25:Int)(Zfg Zbw:List Int)(Zbx:Int)(Zby:Bool)(Zbz ZbA ZbB:Int)(ZbC:List Z7)(ZbD:List Int):Option Bool:=
  (Yx.f Z0F Z0G Z1H Z25 Zfg Zbw Zbx Zby Zbz ZbA ZbB ZbC ZbD Vd).bind fun t27=>some (!t27)
theorem Ji.ok{Vd Z0F Z0G Z1H Z25 Zfg Zbw Zbx Zby Zbz ZbA ZbB ZbC ZbD Z2z Z2A Z2B ZgN Ze8 Ze9 Zea b21 b23}(r)(ho:Ji.f Vd Z0F Z0G Z1H Z25 Zfg Zbw Zbx Zby Zbz ZbA ZbB ZbC ZbD=some r):Ok Tryz.prog 77 [.agg #[i8 Vd.Op,i6 Vd.A,i6 Vd.B],pt b23] [Z9 Z4 Z2z Z0F,Z9 Z4 Z2A Z0G,Z9 Zd Z2B Z1H,Z9 kb ZgN Zfg,Z9 kb Ze8 Zbw,Z9 Z8 Ze9 ZbC,Z9 kb Zea ZbD,Z6u b21 [Z2z,Z2A,Z2B,i6 Z25,ZgN,Ze8,i8 Zbx,.bool Zby,i6 Zbz,i6 ZbA,i6 ZbB,Ze9,Zea] 122,Ku b23 [pt b21] 116] fun v=>HO.pure (v=.bool r):=by
 refine oq 8 Tryz.func77 fun w hV see pb=>?_;refine bx (h:=fun _=>id) fun b25=>?_;refine SP.val (Val.assign rfl) rfl rfl rfl ?_;refine SP.nil ?_;refine QE.then ?_
 refine CP.seq ?_;refine CP.region ?_;refine SP.val (Val.Z5h see 8 rfl Tryz.underlying116 rfl rfl rfl) rfl rfl rfl (gg ?_);refine kv Yx.ok ho fun t27 ho=>?_;exact sI ho▸rt
end Go.Proofs.YtehjiiebjkkcmaaGreatDoor
end
