/- From any bytes the module is loaded that the chapter says, or none; they stay (the law VerifyLoads): for every input, with no condition but what the card ties to the program (what op's table of bounds and value's table of sizes hold). -/
import Derived.Test.YtehjiiebjkkcmaaGreatDoorRVerifyLoads
import Derived.Test.YtehjiiebjkkcmaaGreatDoorP0VerifyLoads
set_option linter.unusedVariables false
set_option linter.unusedSimpArgs false
set_option linter.unusedSectionVars false
namespace Go.Proofs.YtehjiiebjkkcmaaGreatDoor
open Go.Q
namespace YA
open Zz Y8 Xd XG
theorem Z5z{S α:Type}{F:S→Option (S⊕Int)}(s:Nat→S)(l:List α)(p:α→Bool)(hs:∀k (h:k<l.length),F (s k)=some (if p l[k]=true then .inr (k:Int)else .inl (s (k+1))))(hb:F (s l.length)=some (.inr (-1))):∃r,Zw F (s 0)=some r∧decide (r≥0)=l.any p:=by
 obtain⟨r,hr,hc⟩:=Z02 (F:=F) (n:=l.length) (b := -1) (a:=fun k=>(k:Int)) s (fun k=>if h:k<l.length then p l[k]else false) (fun k hk=>by rw[hs k hk];simp only[dif_pos hk]) hb;refine⟨r,hr,?_⟩;rw[Bool.eq_iff_iff,decide_eq_true_eq,List.any_eq_true];rcases hc with ⟨k,hk,hp,rfl⟩|⟨hn,rfl⟩
 ·rw[dif_pos hk]at hp;exact⟨fun _=>⟨_,List.getElem_mem hk,hp⟩,fun _=>by omega⟩
 ·refine⟨fun h=>by omega,fun⟨x,hx,hp⟩=>?_⟩;obtain⟨k,hk,rfl⟩:=List.mem_iff_getElem.1 hx;have:=hn k hk;rw[dif_pos hk,hp]at this;cases this
def J2(v:Zp):Bool:=(decide (v.Kind=1)&&decide (v.B=0))||(decide (v.Kind=2)&&(decide (-1048576≤v.A∧v.A≤1048576)&&decide (-1048576≤v.B∧v.B≤1048576)))
theorem Zdp(v:Zp):Ua.f v=some (J2 v):=by
 obtain⟨k,a,b⟩:=v;unfold Ua.f Jg.f Z28.f JX.f Ua.j1 J2;dsimp only;by_cases h1:a < -1048576∨a>1048576
 ·rw[if_pos (by simpa using h1),bS,if_pos (by simp)];simp only[bS];have e:decide (-1048576≤a∧a≤1048576)=false:=by rw[decide_eq_false_iff_not];omega
  rw[e];by_cases hk:k=1<;>by_cases hb:b=0<;>simp[hk,hb]
 ·rw[if_neg (by simpa using h1)];by_cases h2:b < -1048576∨b>1048576
  ·rw[if_pos (by simpa using h2),bS,if_pos (by simp)];simp only[bS];have e:decide (-1048576≤b∧b≤1048576)=false:=by rw[decide_eq_false_iff_not];omega
   rw[e];by_cases hk:k=1<;>by_cases hb:b=0<;>simp[hk,hb]
  ·rw[if_neg (by simpa using h2),bS,if_neg (by simp)];simp only[bS];have e1:decide (-1048576≤a∧a≤1048576)=true:=by rw[decide_eq_true_eq];omega
   have e2:decide (-1048576≤b∧b≤1048576)=true:=by rw[decide_eq_true_eq];omega
   rw[e1,e2];by_cases hk:k=1<;>by_cases hb:b=0<;>by_cases hk2:k=2<;>simp[hk,hb,hk2]
theorem Zlf{α:Type}{A B:List α}{k:Nat}(h:A.length=B.length)(hk:k<A.length):(A.take k++B.drop k).set k A[k]=A.take (k+1)++B.drop (k+1):=by
 rw[List.set_append_right _ _ (by simp;omega),List.length_take,Nat.min_eq_left (by omega),Nat.sub_self];rw[List.drop_eq_getElem_cons (by omega),List.set_cons_zero];rw[show A.take (k+1)=A.take k ++ [A[k]] from by rw[List.take_add_one,List.getElem?_eq_getElem hk];rfl,List.append_assoc];rfl
theorem ZoH{α:Type}{A B:List α}{k:Nat}(h:A.length=B.length)(hk:k<B.length):elt (A.take k++B.drop k) (k:Int)=some B[k]:=by
 rw[Zy (by simp;omega),List.getElem_append_right (by simp;omega)];simp[Nat.min_eq_left (show k≤A.length by omega)]
def spr(n:Int)(w:Nat):List Int:=(List.range w).map fun i:Nat=>IntKind.u8.wrap (Z4j .i64 n (8*(i:Int)))
theorem Z4b(n:Int)(w:Nat):(spr n w).length=w:=by simp[spr]
theorem Zkk{n:Int}{w:Nat}(hw:w≤8):Xg.f n w=some (spr n w):=by
 unfold Xg.f;have hl:=Z4b n w;rw[Ze (t :=.l1 ((spr n w).take 0++(List.replicate w 0).drop 0) ((0:Nat):Int)) (by
  dsimp only[Xg.F];rw[if_pos (by omega)];rfl)]
 refine(TF (F:=Xg.F n w) (n:=w) (fun k =>.l1 ((spr n w).take k++(List.replicate w 0).drop k) (k:Int)) (fun k hk=>?_)).trans (Zf ?_)
 ·have w8:IntKind.i64.wrap (8*(k:Int))=8*(k:Int):=ZW (by omega) (by omega);dsimp only[Xg.F];rw[if_pos (by simp;omega),w8,if_pos (by omega),ZoH (by simp[hl]) (by simpa using hk)];simp only[bS,Int.toNat_natCast];rw[Zu k (by omega),←Zlf (A:=spr n w) (by simp[hl]) (by omega)];simp[spr]
 ·dsimp only[Xg.F];rw[if_neg (by simp),List.take_of_length_le (by omega),List.drop_of_length_le (by simp),List.append_nil]
def fB(w:Nat)(n:Int):Bool:=decide (n≥0)&&(decide (w=8)||decide (Z4j .i64 n (8*(w:Int))=0))
theorem ZoI{w:Nat}{n:Int}(hw:w≤8):Z1q.f w n=some (fB w n):=by
 have w8:IntKind.i64.wrap (8*(w:Int))=8*(w:Int):=ZW (by omega) (by omega);unfold Z1q.f fB;rw[w8];by_cases h0:n≥0
 ·rw[if_pos h0];by_cases h8:w=8
  ·rw[if_pos (by omega)];simp[h0,h8]
  ·rw[if_neg (by omega),if_pos (by omega)];simp[h0,h8]
 ·rw[if_neg h0];simp[h0]
def VG(w:Nat)(n:Int):List Int×Int:=if fB w n=true then(spr n w,0)else([],11)
theorem Z7I{w:Nat}{n:Int}(h1:1≤w)(hw:w≤8):Va.f w n=some (VG w n):=by
 unfold Va.f VG;rw[if_neg (by simp;omega),ZoI hw];simp only[bS];cases fB w n with
 |true=>rw[if_neg (by simp),Zkk hw];rfl
 |false=>rfl
theorem Kw(w:Nat)(n:Int):(VG w n).1.length≤w:=by
 unfold VG;split
 ·simp[Z4b]
 ·simp
def JR(v:Zp):List Int×Int:=
 if J2 v=false then([],30)else if v.Kind=1 then([v.Kind]++spr v.A 8,0)else
 if(VG 3 (IntKind.i64.wrap (v.A+1048576))).2≠0 then([],30)else if(VG 3 (IntKind.i64.wrap (v.B+1048576))).2≠0 then([],30)else
 (([v.Kind]++(VG 3 (IntKind.i64.wrap (v.A+1048576))).1)++(VG 3 (IntKind.i64.wrap (v.B+1048576))).1,0)
theorem Zdq(v:Zp):Z0w.f v=some (JR v):=by
 unfold Z0w.f JR Z0R.f;rw[Zdp];simp only[bS];cases J2 v with
 |false=>rfl
 |true=>
  rw[if_neg (show ¬((!true)=true) by simp),if_neg (show ¬(true=false) by simp)];have a1:=Z7I (w:=3) (n:=IntKind.i64.wrap (v.A+1048576)) (by omega) (by omega);have a2:=Z7I (w:=3) (n:=IntKind.i64.wrap (v.B+1048576)) (by omega) (by omega);have l1:=Kw 3 (IntKind.i64.wrap (v.A+1048576));have l2:=Kw 3 (IntKind.i64.wrap (v.B+1048576));by_cases hk:v.Kind=1
  ·have a0:=Zkk (n:=v.A) (w:=8) (Nat.le_refl _);rw[if_pos hk,if_pos hk,show Xg.f v.A 8=some (spr v.A 8) from a0];simp only[bS];rw[if_pos (by simp[Z4b])]
  ·rw[if_neg hk,if_neg hk,show Va.f 3 (IntKind.i64.wrap (v.A+1048576))=some (VG 3 (IntKind.i64.wrap (v.A+1048576))) from a1];simp only[bS];by_cases h1:(VG 3 (IntKind.i64.wrap (v.A+1048576))).2≠0
   ·rw[if_pos h1,if_pos h1]
   ·rw[if_neg h1,if_neg h1,if_pos (by simp only[List.length_singleton];omega),show Va.f 3 (IntKind.i64.wrap (v.B+1048576))=some (VG 3 (IntKind.i64.wrap (v.B+1048576))) from a2];simp only[bS];by_cases h2:(VG 3 (IntKind.i64.wrap (v.B+1048576))).2≠0
    ·rw[if_pos h2,if_pos h2]
    ·rw[if_neg h2,if_neg h2,if_pos (by simp only[List.length_append,List.length_singleton];omega)]
theorem Z9y(v:Zp):(JR v).1.length≤9:=by
 have l1:=Kw 3 (IntKind.i64.wrap (v.A+1048576));have l2:=Kw 3 (IntKind.i64.wrap (v.B+1048576));unfold JR;split
 ·simp
 ·split
  ·simp[Z4b]
  ·split
   ·simp
   ·split
    ·simp
    ·simp only[List.length_append,List.length_singleton];omega
def Z4L(l:List Zp):Bool:=decide (l.length≤32) && !(l.any fun v => !J2 v)
def Ju:List Zp→List Int→List Int×Int
 | [],o=>(o,0)
 |v::c,o=>if(JR v).2≠0 then([],60)else Ju c (o++(JR v).1)
def WL(l:List Zp):List Int×Int:=if Z4L l=false then([],60)else Ju l [IntKind.u8.wrap (l.length:Int)]
theorem ZhK{l:List Zp}(hl:l.length≤100):Z2Z.f l=some (Z4L l):=by
 unfold Z2Z.f Z4L;by_cases h:(l.length:Int)≤32
 ·rw[if_pos h];unfold WA.f Y9.f;obtain⟨r,hr,e⟩:=Z5z (F:=Y9.F l) (fun k =>.l1 (k:Int)) l (fun v => !J2 v) (fun k hk=>by
   dsimp only[Y9.F];unfold Z2t.f;rw[if_pos (by omega),Zy hk,bS,Zdp];simp only[bS,Zu k (by omega)];cases J2 l[k]<;>rfl) (by dsimp only[Y9.F];rw[if_neg (by omega)])
  rw[Ze (t :=.l1 ((0:Nat):Int)) rfl,hr,bS,e];have:decide (l.length≤32)=true:=by rw[decide_eq_true_eq];omega
  rw[this];rfl
 ·rw[if_neg h];have:decide (l.length≤32)=false:=by rw[decide_eq_false_iff_not];omega
  rw[this];rfl
theorem Zbc:∀(c:List Zp) (o:List Int),(Ju c o).1.length≤o.length+9*c.length∧((Ju c o).2=0∨(Ju c o).2=60)
 | [],o=>by simp[Ju]
 |v::c,o=>by
  rw[Ju];split
  ·simp
  ·have:=Zbc c (o++(JR v).1);have:=Z9y v;simp only[List.length_append,List.length_cons]at *;exact⟨by omega,by omega⟩
theorem Zdr{l:List Zp}(hl:l.length≤100):Ve.f l=some (WL l):=by
 unfold Ve.f WL;cases hm:Z4L l with
 |false=>
  refine Zf ?_;dsimp only[Ve.F];rw[ZhK hl,hm];rfl
 |true=>
  rw[if_neg (by simp),Ze (t :=.l1 [IntKind.u8.wrap (l.length:Int)] ((0:Nat):Int)) (by dsimp only[Ve.F];rw[ZhK hl,hm];rfl)];have:∀(c pre:List Zp) (o:List Int),l=pre++c→o.length≤1+9*pre.length→Zw (Ve.F l) (.l1 o (pre.length:Int))=some (Ju c o):=by
   intro c;induction c with
   |nil=>
    intro pre o he _;refine Zf ?_;dsimp only[Ve.F];rw[if_neg (by rw[he];simp)];rfl
   |cons v c ih=>
    intro pre o he ho;have hp:pre.length<l.length:=by rw[he];simp
    have hv:l[pre.length]=v:=by simp[he]
    have lv:=Z9y v;rw[Ju];by_cases h:(JR v).2≠0
    ·rw[if_pos h];refine Zf ?_;dsimp only[Ve.F];rw[if_pos (by omega),Zy hp,hv];simp only[bS];rw[Zdq];simp only[bS];rw[if_pos h]
    ·rw[if_neg h,←ih (pre ++ [v]) _ (by rw[he];simp) (by simp only[List.length_append,List.length_singleton];omega)];refine Ze ?_;dsimp only[Ve.F];rw[if_pos (by omega),Zy hp,hv];simp only[bS];rw[Zdq];simp only[bS];rw[if_neg h,if_pos (by omega),Zu pre.length (by omega),List.length_append];rfl
  exact this l [] _ rfl (by simp)
theorem Z43(l:List Zp):(WL l).1.length≤1+9*l.length∧((WL l).2=0∨(WL l).2=60):=by
 unfold WL;split
 ·simp
 ·have:=Zbc l [IntKind.u8.wrap (l.length:Int)];simpa using this
end YA
namespace YA
open Zz Y8 Xd XG
def loc(k:Int):Bool:=J2 ⟨k,0,0⟩||decide (k=3)
theorem ZsT(k:Int):JA.f k=some (loc k):=by
 unfold JA.f Z2u.f Z0U.f loc;rw[Zdp];simp only[bS];by_cases h3:k=3<;>cases J2 ⟨k,0,0⟩<;>simp[h3]
def Z5e(x:Zb):Bool:=
 if x.Args.length>4∨x.Args.length+x.Zk.length>16∨(x.Result≠1∧x.Result≠2)then false else if(x.Args++x.Zk).any (fun k => !loc k)=true then false else
 decide ((0≤x.Fuel∧x.Fuel≤1048576)∧(0≤x.Stack∧x.Stack≤256)∧0≤x.Heap∧x.Heap≤1024)
theorem ZhL{x:Zb}(h1:x.Args.length≤100)(h2:x.Zk.length≤100):Vo.f x=some (Z5e x):=by
 have w:IntKind.i64.wrap ((x.Args.length:Int)+(x.Zk.length:Int))=(x.Args.length:Int)+(x.Zk.length:Int):=ZW (by omega) (by omega);unfold Vo.f Z5e;by_cases h:x.Args.length>4∨x.Args.length+x.Zk.length>16∨(x.Result≠1∧x.Result≠2)
 ·rw[if_pos h,Zf];dsimp only[Vo.F];rw[w,if_pos];simp only[Bool.or_eq_true,Bool.and_eq_true,decide_eq_true_eq];omega
 ·rw[if_neg h,Ze (t :=.l1 (x.Args++x.Zk) ((0:Nat):Int)) (by
   dsimp only[Vo.F];unfold Z0T.f;rw[w,if_neg (by simp only[Bool.or_eq_true,Bool.and_eq_true,decide_eq_true_eq];omega),Z7G (by omega)];rfl)]
  obtain⟨r,hr,hc⟩:=Z02 (F:=Vo.F x) (n:=(x.Args++x.Zk).length) (b:=decide ((0≤x.Fuel∧x.Fuel≤1048576)∧(0≤x.Stack∧x.Stack≤256)∧0≤x.Heap∧x.Heap≤1024)) (a:=fun _=>false) (fun k =>.l1 (x.Args++x.Zk) (k:Int)) (fun k=>if h:k<(x.Args++x.Zk).length then !loc (x.Args++x.Zk)[k]else false) (fun k hk=>by
   dsimp only[Vo.F];rw[if_pos (by omega),Zy hk,bS,ZsT];simp only[bS,dif_pos hk,Zu k (by simp at hk;omega)];cases loc (x.Args++x.Zk)[k]<;>rfl) (by
   dsimp only[Vo.F];unfold UM.f;rw[if_neg (by omega)];simp only[bS];congr 2;by_cases f1:0≤x.Fuel∧x.Fuel≤1048576
   ·rw[show(decide (x.Fuel≥0)&&decide (x.Fuel≤1048576))=true by simp;omega];by_cases f2:0≤x.Stack∧x.Stack≤256
    ·rw[show(decide (x.Stack≥0)&&decide (x.Stack≤256))=true by simp;omega];simp[f1,f2]
    ·have:(decide (x.Stack≥0)&&decide (x.Stack≤256))=false:=by
      rw[Bool.and_eq_false_iff,decide_eq_false_iff_not,decide_eq_false_iff_not];omega
     rw[this];simp[f1,f2]
   ·have:(decide (x.Fuel≥0)&&decide (x.Fuel≤1048576))=false:=by
     rw[Bool.and_eq_false_iff,decide_eq_false_iff_not,decide_eq_false_iff_not];omega
    rw[this];simp[f1])
  rw[hr];congr 1;rcases hc with ⟨k,hk,hp,rfl⟩|⟨hn,rfl⟩
  ·rw[dif_pos hk]at hp;rw[if_pos (List.any_eq_true.2 ⟨_,List.getElem_mem hk,hp⟩)]
  ·rw[if_neg];intro ha;obtain⟨k,hk,hp⟩:=List.any_eq_true.1 ha;obtain⟨i,hi,rfl⟩:=List.mem_iff_getElem.1 hk;have:=hn i hi;rw[dif_pos hi,hp]at this;cases this
def Z44(x:Zb)(o:List Int):List Int×Int:=
 if(VG 3 x.Fuel).2≠0 then([],70)else if(VG 2 x.Stack).2≠0 then([],70)else if(VG 2 x.Heap).2≠0 then([],70)else(((o++(VG 3 x.Fuel).1)++(VG 2 x.Stack).1)++(VG 2 x.Heap).1,0)
def Z2L(x:Zb):List Int:=((([IntKind.u8.wrap (x.Args.length:Int)]++x.Args) ++ [IntKind.u8.wrap (x.Zk.length:Int)])++x.Zk) ++ [x.Result,if x.Reads=true then 1 else 0]
def Uy(x:Zb):List Int×Int:=if Z5e x=false then([],70)else Z44 x (Z2L x)
theorem Zez{x:Zb}{o:List Int}(ho:o.length≤1000):VZ.j1 x o=some (Z44 x o):=by
 have a1:=Z7I (w:=3) (n:=x.Fuel) (by omega) (by omega);have a2:=Z7I (w:=2) (n:=x.Stack) (by omega) (by omega);have a3:=Z7I (w:=2) (n:=x.Heap) (by omega) (by omega);have l1:=Kw 3 x.Fuel;have l2:=Kw 2 x.Stack;have l3:=Kw 2 x.Heap;unfold VZ.j1 Z44;rw[show Va.f 3 x.Fuel=some (VG 3 x.Fuel) from a1];simp only[bS];by_cases h1:(VG 3 x.Fuel).2≠0
 ·rw[if_pos h1,if_pos h1]
 rw[if_neg h1,if_neg h1,if_pos (by omega),show Va.f 2 x.Stack=some (VG 2 x.Stack) from a2];simp only[bS];by_cases h2:(VG 2 x.Stack).2≠0
 ·rw[if_pos h2,if_pos h2]
 rw[if_neg h2,if_neg h2,if_pos (by simp only[List.length_append];omega),show Va.f 2 x.Heap=some (VG 2 x.Heap) from a3];simp only[bS];by_cases h3:(VG 2 x.Heap).2≠0
 ·rw[if_pos h3,if_pos h3]
 rw[if_neg h3,if_neg h3,if_pos (by simp only[List.length_append];omega)]
theorem ZhM(x:Zb)(o:List Int):(Z44 x o).1.length≤o.length+7∧((Z44 x o).2=0∨(Z44 x o).2=70):=by
 have l1:=Kw 3 x.Fuel;have l2:=Kw 2 x.Stack;have l3:=Kw 2 x.Heap;unfold Z44;split
 ·simp
 ·split
  ·simp
  ·split
   ·simp
   ·simp only[List.length_append];exact⟨by omega,.inl trivial⟩
theorem Zjq{x:Zb}(h1:x.Args.length≤100)(h2:x.Zk.length≤100):VZ.f x=some (Uy x):=by
 unfold VZ.f Uy;rw[ZhL h1 h2];simp only[bS];cases Z5e x with
 |false=>rfl
 |true=>
  rw[if_neg (show ¬((!true)=true) by simp),if_neg (show ¬(true=false) by simp)];unfold Z2L;generalize hy:((([IntKind.u8.wrap (x.Args.length:Int)]++x.Args) ++ [IntKind.u8.wrap (x.Zk.length:Int)])++x.Zk)=y;have hyl:y.length=x.Args.length+x.Zk.length+2:=by rw[←hy];simp;omega
  rw[if_pos (by simp;omega),if_pos (by simp;omega),if_pos (by simp;omega),if_pos (by simp;omega)];by_cases hr:x.Reads=true
  ·have hl:(((y ++ [x.Result,0]).length:Int))-1=((y.length+1:Nat):Int):=by simp;omega
   rw[if_pos hr,if_pos hr,hl,ZW (by omega) (by omega),Zy (by simp),bS,Int.toNat_natCast,List.set_append_right _ _ (by omega),show y.length+1-y.length=1 by omega];exact Zez (by simp;omega)
  ·rw[if_neg hr,if_neg hr];exact Zez (by simp;omega)
theorem Z9z{x:Zb}(h1:x.Args.length≤100)(h2:x.Zk.length≤100):(Uy x).1.length≤300∧((Uy x).2=0∨(Uy x).2=70):=by
 unfold Uy;split
 ·simp
 ·have:=ZhM x (Z2L x);have:(Z2L x).length=x.Args.length+x.Zk.length+4:=by unfold Z2L;simp;omega
  exact⟨by omega,by omega⟩
def Z4M(l:List Z7):Bool:=(decide (0<l.length)&&decide (l.length≤200)) && !(l.any fun i => !may i)
theorem ZhN{l:List Z7}(hl:l.length≤300)(hw:∀x∈l,Y5 x):Z30.f l=some (Z4M l):=by
 unfold Z30.f Z4M;by_cases h:0<l.length∧l.length≤200
 ·rw[if_pos (by simp;omega)];unfold WB.f Ya.f;obtain⟨r,hr,e⟩:=Z5z (F:=Ya.F l) (fun k =>.l1 (k:Int)) l (fun i => !may i) (fun k hk=>by
   dsimp only[Ya.F];unfold Z2v.f;rw[if_pos (by omega),Zy hk,bS,Zdd (hw _ (List.getElem_mem hk))];simp only[bS,Zu k (by omega)];cases may l[k]<;>rfl) (by dsimp only[Ya.F];rw[if_neg (by omega)])
  rw[Ze (t :=.l1 ((0:Nat):Int)) rfl,hr,bS,e];have:(decide (0<l.length)&&decide (l.length≤200))=true:=by rw[Bool.and_eq_true,decide_eq_true_eq,decide_eq_true_eq];exact h
  rw[this];rfl
 ·rw[if_neg (by simp;omega)];have:(decide (0<l.length)&&decide (l.length≤200))=false:=by rw[Bool.and_eq_false_iff,decide_eq_false_iff_not,decide_eq_false_iff_not];omega
  rw[this];rfl
def Z45(o:Int):Bool:=match Vx.f o with
 |some b=>decide (b.2>0)
 |none=>false
theorem ZhO{i:Z7}(h:Y5 i):JY.f i.Op=some (Z45 i.Op):=by
 obtain⟨h0,h1⟩:=Z7E h;obtain⟨b,hb⟩:=Zb2 h0 h1;unfold JY.f Z45;rw[hb];rfl
def Kt:List Z7→List Int→List Int×Int
 | [],o=>(o,0)
 |i::c,o=>if Z45 i.Op=true then(if(VG 2 i.A).2≠0 then([],40)else Kt c ((o ++ [i.Op])++(VG 2 i.A).1))else Kt c (o ++ [i.Op])
def UL(l:List Z7):List Int×Int:=if Z4M l=false then([],40)else Kt l [IntKind.u8.wrap (l.length:Int)]
theorem Z7d:∀(c:List Z7) (o:List Int),(Kt c o).1.length≤o.length+3*c.length∧((Kt c o).2=0∨(Kt c o).2=40)
 | [],o=>by simp[Kt]
 |i::c,o=>by
  have l2:=Kw 2 i.A;rw[Kt];split
  ·split
   ·simp
   ·have:=Z7d c ((o ++ [i.Op])++(VG 2 i.A).1);simp only[List.length_append,List.length_cons,List.length_nil]at *;exact⟨by omega,by omega⟩
  ·have:=Z7d c (o ++ [i.Op]);simp only[List.length_append,List.length_cons,List.length_nil]at *;exact⟨by omega,by omega⟩
theorem Zjr{l:List Z7}(hl:l.length≤300)(hw:∀x∈l,Y5 x):Ws.f l=some (UL l):=by
 unfold Ws.f UL;cases hm:Z4M l with
 |false=>
  refine Zf ?_;dsimp only[Ws.F];rw[ZhN hl hw,hm];rfl
 |true=>
  rw[if_neg (by simp),Ze (t :=.l1 [IntKind.u8.wrap (l.length:Int)] ((0:Nat):Int)) (by dsimp only[Ws.F];rw[ZhN hl hw,hm];rfl)];have:∀(c pre:List Z7) (o:List Int),l=pre++c→o.length≤1+3*pre.length→Zw (Ws.F l) (.l1 o (pre.length:Int))=some (Kt c o):=by
   intro c;induction c with
   |nil=>
    intro pre o he _;refine Zf ?_;dsimp only[Ws.F];rw[if_neg (by rw[he];simp)];rfl
   |cons i c ih=>
    intro pre o he ho;have hp:pre.length<l.length:=by rw[he];simp
    have hv:l[pre.length]=i:=by simp[he]
    have hi:=hw i (by rw[he];simp);have a2:=Z7I (w:=2) (n:=i.A) (by omega) (by omega);have l2:=Kw 2 i.A;have Z3K:∀q,(if(!Z45 i.Op)=true then(Ws.j1 l (pre.length:Int) (o ++ [i.Op]))else(if(VG 2 i.A).2≠0 then(some (.inr ([],40)))else(if((o ++ [i.Op]).length+(VG 2 i.A).1.length)*1≤140737488355328 then(Ws.j1 l (pre.length:Int) ((o ++ [i.Op])++(VG 2 i.A).1))else none)))=q→Ws.F l (.l1 o (pre.length:Int))=q:=by
     intro q hq;dsimp only[Ws.F];rw[if_pos (by omega),Zy hp,hv];simp only[bS];rw[if_pos (by simp;omega),ZhO hi];simp only[bS];rw[←hq];rw[show Va.f 2 i.A=some (VG 2 i.A) from a2];simp only[bS]
    have nx:IntKind.i64.wrap ((pre.length:Int)+1)=(((pre ++ [i]).length:Nat):Int):=by rw[Zu pre.length (by omega),List.length_append];rfl
    rw[Kt];cases hwd:Z45 i.Op with
    |false=>
     rw[if_neg (by simp),←ih (pre ++ [i]) _ (by rw[he];simp) (by simp only[List.length_append,List.length_singleton];omega)];refine Ze (Z3K _ ?_);rw[hwd,if_pos (by simp)];unfold Ws.j1;rw[nx]
    |true=>
     rw[if_pos rfl];by_cases h:(VG 2 i.A).2≠0
     ·rw[if_pos h];refine Zf (Z3K _ ?_);rw[hwd,if_neg (by simp),if_pos h]
     ·rw[if_neg h,←ih (pre ++ [i]) _ (by rw[he];simp) (by simp only[List.length_append,List.length_singleton];omega)];refine Ze (Z3K _ ?_);rw[hwd,if_neg (by simp),if_neg h,if_pos (by simp only[List.length_append,List.length_singleton];omega)];unfold Ws.j1;rw[nx]
  exact this l [] _ rfl (by simp)
theorem Z9A{l:List Z7}(hl:l.length≤300):(UL l).1.length≤1000∧((UL l).2=0∨(UL l).2=40):=by
 unfold UL;split
 ·simp
 ·have:=Z7d l [IntKind.u8.wrap (l.length:Int)];simp only[List.length_singleton]at this;exact⟨by omega,by omega⟩
end YA
namespace YA
open Zz Y8 Xd XG
def ZfU(m:Zc):Int:=if m.Zo≥0 then IntKind.u8.wrap m.Zo else 255
def TB(m:Zc):List Zb→List Int→List Int×Int
 | [],o=>(o ++ [ZfU m],0)
 |x::c,o=>if(Uy x).2≠0 then([],(Uy x).2)else if(UL x.Code).2≠0 then([],(UL x.Code).2)else TB m c ((o++(Uy x).1)++(UL x.Code).1)
def Z3A(m:Zc):List Int×Int:=
 if m.ZA.length>4∨m.Methods.length>16∨m.Zo < -1∨m.Zo≥m.Methods.length then([],80)else
 if(WL m.ZA).2≠0 then([],(WL m.ZA).2)else if(WL m.Pool).2≠0 then([],(WL m.Pool).2)else
 TB m m.Methods (((WL m.ZA).1++(WL m.Pool).1) ++ [IntKind.u8.wrap (m.Methods.length:Int)])
def Z7e(m:Zc):List Int×Int:=if(Z3A m).2≠0 then([],(Z3A m).2)else if((Z3A m).1.length:Int)>2000 then([],3)else((Z3A m).1,0)
def Z4N(m:Zc):Int:=(Z7e m).2
theorem Zlg{m:Zc}(hm:XK m)(S:Small m):XI.f m=some (Z3A m):=by
 have hG:=S.G;have hP:=S.P;have hM:=S.M;have lg:=Z43 m.ZA;have lp:=Z43 m.Pool;unfold XI.f Z3A;by_cases h:m.ZA.length>4∨m.Methods.length>16∨m.Zo < -1∨m.Zo≥m.Methods.length
 ·rw[if_pos h];refine Zf ?_;dsimp only[XI.F];rw[if_pos];simp only[Bool.or_eq_true,decide_eq_true_eq];omega
 rw[if_neg h];have st:∀q,(if(WL m.ZA).2≠0 then(some (.inr ([],(WL m.ZA).2)))else(if(WL m.Pool).2≠0 then(some (.inr ([],(WL m.Pool).2)))else(if((WL m.ZA).1.length+(WL m.Pool).1.length)*1≤140737488355328 then(if(((WL m.ZA).1++(WL m.Pool).1).length + [IntKind.u8.wrap (m.Methods.length:Int)].length)*1≤140737488355328 then(some (.inl (.l1 (((WL m.ZA).1++(WL m.Pool).1) ++ [IntKind.u8.wrap (m.Methods.length:Int)]) 0)))else none)else none)))=q→XI.F m .start=q:=by
  intro q hq;dsimp only[XI.F];rw[if_neg (by simp only[Bool.or_eq_true,decide_eq_true_eq];omega),Zdr hG];simp only[bS];rw[Zdr hP];simp only[bS];exact hq
 by_cases hg:(WL m.ZA).2≠0
 ·rw[if_pos hg]at st ⊢;exact Zf (st _ rfl)
 rw[if_neg hg]at st ⊢;by_cases hp:(WL m.Pool).2≠0
 ·rw[if_pos hp]at st ⊢;exact Zf (st _ rfl)
 rw[if_neg hp]at st ⊢;rw[if_pos (by omega),if_pos (by simp only[List.length_append,List.length_singleton];omega)]at st;rw[Ze (st _ rfl)];have:∀(c pre:List Zb) (o:List Int),m.Methods=pre++c→o.length≤4000+2000*pre.length→Zw (XI.F m) (.l1 o (pre.length:Int))=some (TB m c o):=by
  intro c;induction c with
  |nil=>
   intro pre o he ho;have hpl:pre.length≤40:=by rw[he]at hM;simpa using hM
   refine Zf ?_;dsimp only[XI.F];rw[if_neg (by rw[he];simp)];unfold XI.j1;rw[TB,ZfU];by_cases h0:m.Zo≥0
   ·rw[if_pos h0,if_pos h0,if_pos (by simp;omega)]
   ·rw[if_neg h0,if_neg h0,if_pos (by simp;omega)]
  |cons x c ih=>
   intro pre o he ho;have hpl:pre.length<m.Methods.length:=by rw[he];simp
   have hx:m.Methods[pre.length]=x:=by simp[he]
   have hxm:x∈m.Methods:=by rw[he];simp
   have hs:=S.x x hxm;have hwx:∀i∈x.Code,Y5 i:=((hm.2.2.1.2 x hxm).2.2.2.2.2.2.2).2;have lm:=Z9z hs.1 hs.2.1;have lc:=Z9A hs.2.2;have Z3K:∀q,(if(Uy x).2≠0 then(some (.inr ([],(Uy x).2)))else(if(UL x.Code).2≠0 then(some (.inr ([],(UL x.Code).2)))else(if(o.length+(Uy x).1.length)*1≤140737488355328 then(if((o++(Uy x).1).length+(UL x.Code).1.length)*1≤140737488355328 then(some (.inl (.l1 ((o++(Uy x).1)++(UL x.Code).1) (IntKind.i64.wrap ((pre.length:Int)+1)))))else none)else none)))=q→XI.F m (.l1 o (pre.length:Int))=q:=by
    intro q hq;dsimp only[XI.F];rw[if_pos (by omega),Zy hpl,hx];simp only[bS];rw[Zjq hs.1 hs.2.1];simp only[bS];rw[Zjr hs.2.2 hwx];simp only[bS];exact hq
   rw[TB];by_cases h1:(Uy x).2≠0
   ·rw[if_pos h1]at Z3K ⊢;exact Zf (Z3K _ rfl)
   rw[if_neg h1]at Z3K ⊢;by_cases h2:(UL x.Code).2≠0
   ·rw[if_pos h2]at Z3K ⊢;exact Zf (Z3K _ rfl)
   rw[if_neg h2]at Z3K ⊢;rw[if_pos (by omega),if_pos (by simp only[List.length_append];omega),show IntKind.i64.wrap ((pre.length:Int)+1)=(((pre ++ [x]).length:Nat):Int) by rw[Zu pre.length (by omega),List.length_append];rfl]at Z3K;rw[Ze (Z3K _ rfl)];exact ih (pre ++ [x]) _ (by rw[he];simp) (by simp only[List.length_append,List.length_singleton];omega)
 exact this m.Methods [] _ rfl (by simp only[List.length_append,List.length_singleton];omega)
theorem Zlh{m:Zc}(hm:XK m)(S:Small m):JB.f m=some (Z7e m):=by
 unfold JB.f Z7e;rw[Zlg hm S];simp only[bS];split
 ·rfl
 ·split<;>rfl
theorem ZsU{m:Zc}(hm:XK m)(S:Small m):Z1r.f m=some (Z4N m):=by
 unfold Z1r.f Z4N;rw[Zlh hm S];rfl
def okE(e:Int):Prop:=e≠1∧e≠4
theorem Zbd{m:Zc}(S:Small m):∀(c:List Zb) (o:List Int),(∀x∈c,x∈m.Methods)→okE (TB m c o).2
 | [],o,_=>by simp[TB,okE]
 |x::c,o,h=>by
  have hs:=S.x x (h x (by simp));have lm:=(Z9z hs.1 hs.2.1).2;have lc:=(Z9A hs.2.2).2;rw[TB];split
  ·dsimp only;unfold okE;omega
  ·split
   ·dsimp only;unfold okE;omega
   ·exact Zbd S c _ fun y hy=>h y (by simp[hy])
theorem Zds{m:Zc}(S:Small m):okE (Z4N m)∧(Z4N m=0 → -1≤m.Zo∧m.Zo<m.Methods.length):=by
 have lg:=(Z43 m.ZA).2;have lp:=(Z43 m.Pool).2;unfold Z4N Z7e Z3A;by_cases h:m.ZA.length>4∨m.Methods.length>16∨m.Zo < -1∨m.Zo≥m.Methods.length
 ·simp[h,okE]
 ·rw[if_neg h];refine⟨?_,fun _=>by omega⟩;by_cases hg:(WL m.ZA).2≠0
  ·rw[if_pos hg,if_pos hg];dsimp only;unfold okE;omega
  rw[if_neg hg];by_cases hp:(WL m.Pool).2≠0
  ·rw[if_pos hp,if_pos hp];dsimp only;unfold okE;omega
  rw[if_neg hp];have:=Zbd S m.Methods (((WL m.ZA).1++(WL m.Pool).1) ++ [IntKind.u8.wrap (m.Methods.length:Int)]) (fun _ h=>h);generalize TB m m.Methods (((WL m.ZA).1++(WL m.Pool).1) ++ [IntKind.u8.wrap (m.Methods.length:Int)])=w at this
  split
  ·exact this
  ·split
   ·unfold okE;dsimp only;omega
   ·unfold okE;dsimp only;omega
theorem ZsV{l:List Int}{n:Int}(hl:l.length≤100):Vs.f l n=some (l.any fun a=>decide (n=a)):=by
 unfold Vs.f Xj.f;obtain⟨r,hr,e⟩:=Z5z (F:=Xj.F l n) (fun k =>.l1 (k:Int)) l (fun a=>decide (n=a)) (fun k hk=>by
  dsimp only[Xj.F];rw[if_pos (by omega),Zy hk];simp only[bS,Zu k (by omega)];by_cases h:n=l[k]
  ·rw[if_pos h,if_pos (by simpa using h)]
  ·rw[if_neg h,if_neg (by simpa using h)]) (by dsimp only[Xj.F];rw[if_neg (by omega)])
 rw[Ze (t :=.l1 ((0:Nat):Int)) rfl,hr,bS,e]
def Z6d(x:Zb):Bool:=Z5e x && !(x.Args.any fun a=>decide (3=a))
theorem ZsW{x:Zb}(h1:x.Args.length≤100)(h2:x.Zk.length≤100):Kk.f x=some (Z6d x):=by
 unfold Kk.f Z6d;rw[ZhL h1 h2];simp only[bS];cases Z5e x with
 |false=>rfl
 |true=>rw[if_pos rfl,ZsV h1];rfl
def Z1V(m:Zc):Int:=if m.Zo≥0∧Z6d (Z1x m m.Zo.toNat)=false then 70 else 0
theorem Zli{m:Zc}(S:Small m)(h:m.Zo<m.Methods.length):JC.f m=some (Z1V m):=by
 unfold JC.f Z1V;by_cases h0:m.Zo≥0
 ·have hk:m.Zo.toNat<m.Methods.length:=by omega
  have hs:=S.x _ (List.getElem_mem hk);rw[if_pos h0,Uu (xs:=m.Methods) (by omega) hk];simp only[bS];rw[ZsW hs.1 hs.2.1];simp only[bS];rw[Z1d hk];cases Z6d m.Methods[m.Zo.toNat]<;>simp[h0]
 ·rw[if_neg h0];simp[h0]
end YA
namespace YA
open Zz Y8 Xd XG
theorem ZhP(E:TE)(i:Z7)(row:List Int):(XZ E i row).2=0∨(XZ E i row).2=100∨(XZ E i row).2=101:=by
 unfold XZ;split
 ·simp
 ·split<;>simp
theorem ZeA{next:List Int}:∀(ws:List Int) (rows:List Zi),(Y8.put next rows ws).1=0∨(Y8.put next rows ws).1=100
 | [],rows=>by simp[Y8.put]
 |w::ws,rows=>by
  unfold Y8.put;split
  ·simp
  ·exact ZeA ws _
theorem Z9B(E:TE)(l:List Z7):∀k,(Xy E l k).1=0∨(Xy E l k).1=100∨(Xy E l k).1=101
 | 0=>by simp[Xy]
 |k+1=>by
  unfold Xy;split
  ·exact Z9B E l k
  ·unfold Tz;split
   ·split
    ·exact ZhP ..
    ·rcases ZeA (next:=(XZ E (At l Z7.zero (k:Int)) (At (Xy E l k).2 R0 (k:Int)).Kinds).1) (Zz.ways l k) (Xy E l k).2 with h|h
     ·exact .inl h
     ·exact .inr (.inl h)
   ·simp
theorem Zbe{m:Zc}{k:Nat}(hm:XK m)(S:Small m)(hk:k<m.Methods.length):YF.f m k=some (VO m k)∧okE (VO m k).2∧((VO m k).2=0→Known m.Methods[k].Code∧UK m.Methods[k].Code):=by
 obtain⟨rows,e,g1,g3⟩:=rows_ok hm S hk;have er:VO m k=(rows,e):=by unfold VO;rw[g1];rfl
 rw[er];refine⟨g1,?_,fun he=>⟨(g3 he).2.1,(g3 he).2.2.1⟩⟩;have h0:(0:Int)≤(k:Int):=by omega
 have h1:(k:Int)<m.Methods.length:=by omega
 have hx:=Zy hk;generalize hxe:m.Methods[k]=x at hx
 have hxm:x∈m.Methods:=by rw[←hxe];exact List.getElem_mem hk
 have hs:=S.x x hxm;have hwx:∀i∈x.Code,Y5 i:=((hm.2.2.1.2 x hxm).2.2.2.2.2.2.2).2;obtain⟨e1,e2,e3⟩:=Z75 (m:=m) (k:=k) (x:=x) h0 h1 hx (by omega) hwx (by omega);have out:∀{r:List Zi} {e':Int},YF.f m k=some (r,e')→e=e':=by
  intro r e' h;rw[g1]at h;exact(Prod.mk.inj (sI h)).2
 unfold okE;dsimp only;by_cases hkn:Known x.Code
 ·by_cases hf:UK x.Code
  ·by_cases hth:∃i∈x.Code,there (Yw m x) i=false
   ·have:=out (e3 hkn hf hth);omega
   ·have W:Well (Yw m x) x.Code:=⟨hkn,hf,hwx,fun i hi=>by
     cases ht:there (Yw m x) i
     ·exact absurd ⟨i,hi,ht⟩ hth
     ·rfl,fun y hy=>by have:=S.x y hy;omega⟩
    have hw:=Z74 h0 h1 hx W (by omega);have:=out (r:=(Jt (Yw m x) x.Code).1) (e':=(Jt (Yw m x) x.Code).2) hw;have ha:=Z9B (Yw m x) x.Code x.Code.length;unfold Jt at this;split at this
    ·dsimp only at this;omega
    ·dsimp only at this;omega
  ·have:=out (e2 hkn hf);omega
 ·have:=out (e1 hkn);omega
noncomputable def Z7f(m:Zc):Int×Int:=match (List.range m.Methods.length).find? (fun k=>decide ((VO m k).2≠0))with
 |some k=>((k:Int),(VO m k).2)
 |none=>(-1,0)
theorem Zlj{m:Zc}(hm:XK m)(S:Small m):Vm.f m=some (Z7f m):=by
 have hM:=S.M;unfold Vm.f;have scan:∀(j k:Nat),k+j=m.Methods.length→Zw (Vm.F m) (.l1 (k:Int))=some (match (List.range' k j).find? (fun k=>decide ((VO m k).2≠0))with
     |some k=>((k:Int),(VO m k).2)
     |none=>(-1,0)):=by
  intro j;induction j with
  |zero=>
   intro k hk;refine Zf ?_;dsimp only[Vm.F];rw[if_neg (by omega)];simp
  |succ j ih=>
   intro k hk;have hr:=(Zbe hm S (show k<m.Methods.length by omega)).1;rw[List.range'_succ,List.find?_cons];by_cases he:(VO m k).2=0
   ·rw[show decide ((VO m k).2≠0)=false by simpa using he];dsimp only;rw[←ih (k+1) (by omega)];refine Ze ?_;dsimp only[Vm.F];unfold Uo.f;rw[if_pos (by omega),hr];simp only[bS];rw[if_neg (by simpa using he),Zu k (by omega)]
   ·rw[show decide ((VO m k).2≠0)=true by simpa using he];refine Zf ?_;dsimp only[Vm.F];unfold Uo.f;rw[if_pos (by omega),hr];simp only[bS];rw[if_pos he]
 rw[Ze (t :=.l1 ((0:Nat):Int)) rfl,scan m.Methods.length 0 (by omega),←List.range_eq_range'];rfl
def Z1e(m:Zc):Int:=if TA m=true then 2 else(JQ (YW m) m.Methods.length []).2
theorem Zlk{m:Zc}(S:Small m):Z0y.f m=some (Z1e m):=by
 unfold Z0y.f Z1e;rw[Z69 ⟨S.M,fun x hx=>(S.x x hx).2.2⟩];simp only[bS];split<;>rfl
theorem ZoJ{m:Zc}(hm:XK m)(S:Small m):Z1u.f m=some (Kc m).2:=by
 unfold Z1u.f;rw[Z6a hm S];rfl
theorem Zll{m:Zc}(S:Fit m):Uj.f m=some (if TA m=true then([],2)else(YW m,0)):=by
 unfold Uj.f;rw[Ze (t :=.l1 [] ((0:Nat):Int)) rfl];have:∀(c pre:List Zb),m.Methods=pre++c→Zw (Uj.F m) (.l1 (pre.map fun x=>KL m.Methods.length x.Code) (pre.length:Int))=some (if(c.any fun x=>(nm x.Code).any (VR m.Methods.length))=true then([],2)else(YW m,0)):=by
  intro c;induction c with
  |nil=>
   intro pre he;refine Zf ?_;dsimp only[Uj.F];rw[if_neg (by rw[he];simp)];simp[YW,he]
  |cons x c ih=>
   intro pre he;have hlen:pre.length<m.Methods.length:=by rw[he];simp
   have hx:m.Methods[pre.length]=x:=by simp[he]
   have hw:=Zb5 hlen (S.x _ (List.getElem_mem hlen));rw[hx]at hw;have hM:=S.M;by_cases hb:(nm x.Code).any (VR m.Methods.length)=true
   ·rw[List.any_cons,hb,Bool.true_or,if_pos rfl];refine Zf ?_;dsimp only[Uj.F];rw[if_pos (by omega),hw];simp only[bS,Z0L];rw[if_pos hb,if_pos (by simp)]
   ·have hb':(nm x.Code).any (VR m.Methods.length)=false:=by simpa using hb
    rw[List.any_cons,hb',Bool.false_or,←ih (pre ++ [x]) (by rw[he];simp)];refine Ze ?_;dsimp only[Uj.F];rw[if_pos (by omega),hw];simp only[bS,Z0L];rw[if_neg hb,if_neg (by simp),if_pos (by simp;omega),Zu pre.length (by omega),List.length_append,List.map_append];rfl
 exact this _ [] rfl
def Z0C(x:Zb):Bool:=x.Code.any fun i=>decide (i.Op=5)
theorem Zjs{x:Zb}(hx:x.Code.length≤300):Z0z.f x=some (Z0C x):=by
 unfold Z0z.f WC.f Ye.f Z0C;obtain⟨r,hr,e⟩:=Z5z (F:=Ye.F x.Code) (fun k =>.l1 (k:Int)) x.Code (fun i=>decide (i.Op=5)) (fun k hk=>by
  dsimp only[Ye.F];unfold Z0s.f;rw[if_pos (by omega),Zy hk];simp only[bS,Zu k (by omega)];cases decide (x.Code[k].Op=5)<;>rfl) (by dsimp only[Ye.F];rw[if_neg (by omega)])
 rw[Ze (t :=.l1 ((0:Nat):Int)) rfl,hr];simp only[bS];rw[e]
def Z3l(m:Zc)(l:List Int):Bool:=l.any fun a => !(Z1x m a.toNat).Reads
theorem ZoK{m:Zc}{l:List Int}(hl:l.length≤100)(h:∀a∈l,0≤a∧a<m.Methods.length):V7.f l m.ZA m.Pool m.Methods m.Zo=some (Z3l m l):=by
 unfold V7.f YV.f Z3l;obtain⟨r,hr,e⟩:=Z5z (F:=YV.F l m.ZA m.Pool m.Methods m.Zo) (fun k =>.l1 (k:Int)) l (fun a => !(Z1x m a.toNat).Reads) (fun k hk=>by
  have:=h _ (List.getElem_mem hk);have ha:l[k].toNat<m.Methods.length:=by omega
  dsimp only[YV.F];unfold Jj.f;rw[if_pos (by omega),Zy hk,bS,Uu (xs:=m.Methods) this.1 ha];simp only[bS,Zu k (by omega)];rw[Z1d ha];cases m.Methods[l[k].toNat].Reads<;>rfl) (by dsimp only[YV.F];rw[if_neg (by omega)])
 rw[Ze (t :=.l1 ((0:Nat):Int)) rfl,hr,bS,e]
def ZaG(m:Zc)(k:Nat):Bool:=(Z1x m k).Reads&&(Z0C (Z1x m k)||Z3l m ((YW m).getD k []))
def Z2M(m:Zc):Int:=if TA m=true then 2 else if(List.range m.Methods.length).any (ZaG m)=true then 130 else 0
theorem ZoL{m:Zc}(S:Small m):VN.f m=some (Z2M m):=by
 have hM:=S.M;have F:Fit m:=⟨S.M,fun x hx=>(S.x x hx).2.2⟩
 have hw:=Zll F;unfold VN.f Z2M;by_cases hb:TA m=true
 ·rw[if_pos hb]at hw ⊢;refine Zf ?_;dsimp only[VN.F];rw[hw];simp only[bS];rw[if_pos (by simp)]
 rw[if_neg hb]at hw ⊢;rw[Ze (t :=.l1 (YW m,0) ((0:Nat):Int)) (by dsimp only[VN.F];rw[hw];rfl)];obtain⟨r,hr,hc⟩:=Z02 (F:=VN.F m) (n:=m.Methods.length) (b:=0) (a:=fun _=>130) (fun k =>.l1 (YW m,0) (k:Int)) (fun k=>ZaG m k) (fun k hk=>by
  have hs:=S.x _ (List.getElem_mem hk);have hwl:k<(YW m).length:=by simpa[YW]using hk
  have hg:(YW m).getD k []=(YW m)[k]:=by rw[List.getD_eq_getElem?_getD,List.getElem?_eq_getElem hwl];rfl
  have hin:∀a∈(YW m)[k],0≤a∧a<m.Methods.length:=by
   intro a ha;rw[←hg,Z1c hk]at ha;unfold KL at ha;obtain⟨j,hj,rfl⟩:=List.mem_map.1 (List.mem_filter.1 ha).1;have:=List.mem_range.1 hj;omega
  have hlen:(YW m)[k].length≤100:=by
   rw[←hg,Z1c hk];have:=Z53 m.Methods.length m.Methods[k].Code;omega
  dsimp only[VN.F];rw[if_pos (by omega),Zy hk];simp only[bS];rw[Zjs hs.2.2,Zy hwl];simp only[bS];rw[ZoK hlen hin];simp only[bS,Zu k (by omega)];unfold ZaG;rw[Z1d hk,hg];cases m.Methods[k].Reads<;>cases Z0C m.Methods[k]<;>cases Z3l m (YW m)[k]<;>rfl) (by dsimp only[VN.F];rw[if_neg (by omega)])
 rw[hr];congr 1;rcases hc with ⟨k,hk,hp,rfl⟩|⟨hn,rfl⟩
 ·rw[if_pos (List.any_eq_true.2 ⟨k,List.mem_range.2 hk,hp⟩)]
 ·rw[if_neg];intro ha;obtain⟨k,hk,hp⟩:=List.any_eq_true.1 ha;have:=hn k (List.mem_range.1 hk);rw[hp]at this;cases this
end YA
namespace XG
open Zz Y8 Xd
theorem Zbf{one:List ZM→Nat→ZM}{fit:Nat→ZM→Bool}:∀(o:List Int) (l r:List ZM),Z4K one fit o l=some r→r.length=l.length∧∀j:Nat,(j:Int)∉o→(∀a∈o,0≤a)→r.getD j ZM.zero=l.getD j ZM.zero
 | [],l,r,h=>by
  rw[Z4K]at h;injection h with h;subst h;exact⟨rfl,fun _ _ _=>rfl⟩
 |a::o,l,r,h=>by
  rw[Z4K]at h;split at h
  ·obtain⟨h1,h2⟩:=Zbf o _ r h;refine⟨by rw[h1,List.length_set],fun j hj h0=>?_⟩;rw[h2 j (fun hh=>hj (List.mem_cons_of_mem _ hh)) (fun b hb=>h0 b (List.mem_cons_of_mem _ hb))];have hne:a.toNat≠j:=fun e=>hj (by have:=h0 a (List.mem_cons_self ..);rw[show((j:Nat):Int)=a by omega];exact List.mem_cons_self ..);rw[List.getD_eq_getElem?_getD,List.getD_eq_getElem?_getD,List.getElem?_set_ne hne]
  ·cases h
end XG
namespace XG
theorem ZfV{l:List ZM}(h:l.length<4611686018427387904):Wn.f l l=some true:=by
 unfold Wn.f;rw[Ze (t :=.l1 ((0:Nat):Int)) (by dsimp only[Wn.F];rw[if_neg (by simp)];rfl)];refine(TF (F:=Wn.F l l) (n:=l.length) (fun k =>.l1 (k:Int)) (fun k hk=>?_)).trans (Zf ?_)
 ·dsimp only[Wn.F];rw[if_pos (by omega),Zy hk];simp only[bS];rw[if_neg (by simp),Zu k (by omega)]
 ·dsimp only[Wn.F];rw[if_neg (by omega)]
end XG
namespace YA
open Zz Y8 Xd XG
theorem ZhQ{m:Zc}(h:(Kc m).2=0):(Kc m).1.length=m.Methods.length:=by
 revert h;unfold Kc;split
 ·intro h;simp at h
 ·split
  ·intro h;rename_i h1;exact absurd h h1
  ·split
   ·intro h;rename_i h1;exact absurd h h1
   ·split
    ·intro h;simp at h
    ·rename_i hA
     intro _;have:=(Zbf _ _ _ hA).1;simpa using this
noncomputable def Z2g(m:Zc):Int×Int:=
 if Z4N m≠0 then(0,Z4N m)else if Z1V m≠0 then(1,Z1V m)else if(Z7f m).2≠0 then(2,(Z7f m).2)else if Z1e m≠0 then(3,Z1e m)else
 if(Kc m).2≠0 then(4,(Kc m).2)else if Z2M m≠0 then(5,Z2M m)else(-1,0)
theorem Zjt{m:Zc}(hm:XK m)(S:Small m):WX.f m=some (Z2g m):=by
 have hE:=(Zds S).2;unfold WX.f J7.f Z2g WX.j2;simp only[bS];rw[ZsU hm S];simp only[bS];by_cases h1:Z4N m≠0
 ·rw[if_pos h1,if_pos h1]
 rw[if_neg h1,if_neg h1,Zli S (hE (Classical.not_not.1 h1)).2];simp only[bS];by_cases h2:Z1V m≠0
 ·rw[if_pos h2,if_pos h2]
 unfold Z16.f;rw[if_neg h2,if_neg h2,Zlj hm S];simp only[bS];by_cases h3:(Z7f m).2≠0
 ·rw[if_pos h3,if_pos h3]
 rw[if_neg h3,if_neg h3,Zlk S];simp only[bS];by_cases h4:Z1e m≠0
 ·rw[if_pos h4,if_pos h4]
 rw[if_neg h4,if_neg h4,ZoJ hm S];simp only[bS];by_cases h5:(Kc m).2≠0
 ·rw[if_pos h5,if_pos h5]
 rw[if_neg h5,if_neg h5,ZoL S];simp only[bS];by_cases h6:Z2M m≠0
 ·rw[if_pos h6,if_pos h6]
 ·rw[if_neg h6,if_neg h6,Classical.not_not.1 h6]
theorem ZoM{m:Zc}(hm:XK m)(S:Small m):Z1v.f m=some (Z2g m).2:=by
 unfold Z1v.f;rw[Zjt hm S];rfl
noncomputable def Z3a(m:Zc):List ZM×Int:=if(Z2g m).2≠0 then([],(Z2g m).2)else Kc m
theorem Zju{m:Zc}(hm:XK m)(S:Small m):J9.f m=some (Z3a m):=by
 unfold J9.f Z3a;rw[ZoM hm S];simp only[bS];split
 ·rfl
 ·rw[Z6a hm S];rfl
end YA
namespace XG
open Zz Y8 Xd
theorem Z7g{m:Zc}{k:Nat}(hm:XK m)(S:Small m)(hk:k<m.Methods.length):∃rows e,YF.f m k=some (rows,e)∧ZB.f m k=some (rows.map conv,e) ∧
    (e=0→rows.length=m.Methods[k].Code.length∧Known m.Methods[k].Code∧UK m.Methods[k].Code∧∀r∈rows,r.Kinds.length≤400):=by
 have h0:(0:Int)≤(k:Int):=by omega
 have h1:(k:Int)<m.Methods.length:=by omega
 have hx:=Zy hk;generalize hxe:m.Methods[k]=x at hx
 have hxm:x∈m.Methods:=by rw[←hxe];exact List.getElem_mem hk
 have hs:=S.x x hxm;have hwx:∀i∈x.Code,Y5 i:=((hm.2.2.1.2 x hxm).2.2.2.2.2.2.2).2;obtain⟨e1,e2,e3⟩:=Z75 (m:=m) (k:=k) (x:=x) h0 h1 hx (by omega) hwx (by omega);obtain⟨f1,f2,f3,f4⟩:=Zjo (m:=m) (k:=k) (x:=x) h0 h1 hx (by omega) hwx (by omega);by_cases hkn:Known x.Code
 ·by_cases hf:UK x.Code
  ·by_cases hth:∃i∈x.Code,there (Yw m x) i=false
   ·exact⟨[],100,e3 hkn hf hth,f3 hkn hf hth,by omega⟩
   ·have W:Well (Yw m x) x.Code:=⟨hkn,hf,hwx,fun i hi=>by
     cases ht:there (Yw m x) i
     ·exact absurd ⟨i,hi,ht⟩ hth
     ·rfl,fun y hy=>by have:=S.x y hy;omega⟩
    have hrow:=Z74 h0 h1 hx W (by omega);exact⟨(Jt (Yw m x) x.Code).1,(Jt (Yw m x) x.Code).2,hrow,f4 W,fun he=>⟨(Z52 W he).len,hkn,hf,(Z52 W he).sz⟩⟩
  ·exact⟨[],90,e2 hkn hf,f2 hkn hf,by omega⟩
 ·exact⟨[],40,e1 hkn,f1 hkn,by omega⟩
theorem Z8C{m:Zc}{k:Nat}{kn:List ZM}(hm:XK m)(S:Small m)(hk:k<m.Methods.length)(hb:(nm m.Methods[k].Code).any (VR m.Methods.length)=false)(hkn:kn.length=m.Methods.length)
    {rows:List Zi} (hr:YF.f m k=some (rows,0)):∃c,YQ.f m k kn=some c∧Yj.f m k kn=some c:=by
 obtain⟨rows',e',g1,g2,g3⟩:=Z7g hm S hk;rw[hr]at g1;obtain⟨rfl,rfl⟩:rows=rows'∧(0:Int)=e':=by simpa using g1
 obtain⟨hlen,hK,hF,hsz⟩:=g3 rfl;have hx:=Zy hk;have hxm:=List.getElem_mem hk;generalize m.Methods[k]=x at hx hxm hb hlen hK hF
 have hs:=S.x x hxm;have hwx:∀i∈x.Code,Y5 i:=((hm.2.2.1.2 x hxm).2.2.2.2.2.2.2).2;have ZsS:x.Code.length≤300:=hs.2.2;have t1:=(Z68 (l:=x.Code) (by omega) hwx).2.1 hK hF;have t2:=(Zba (l:=x.Code) (by omega) hwx).2.1 hK hF;have hH0:=Z8x rows rows.length;have hH1:=Zji hsz rows.length;have hn0:IntKind.i64.wrap (IntKind.i64.wrap ((x.Args.length:Int)+(x.Zk.length:Int))+H rows rows.length)=(x.Args.length:Int)+(x.Zk.length:Int)+H rows rows.length:=by
  rw[ZW (x:=(x.Args.length:Int)+(x.Zk.length:Int)) (by omega) (by omega),ZW (by omega) (by omega)]
 have main:∀(c pre:List Z7),x.Code=pre++c→(nm c).any (VR m.Methods.length)=false→∀f s h:Int,In f→In h→∃r,Zw (YQ.F m k kn) (.l1 x (tms x.Code,0) (pre.length:Int) f s h x.Result x.Reads x.Fuel x.Stack x.Heap rows)=some r∧Zw (Yj.F m k kn) (.l1 x (tms x.Code,0) (rows.map conv) (pre.length:Int) f s h)=some r:=by
  intro c;induction c with
  |nil=>
   intro pre he _ f s h _ _;refine⟨⟨f,s,h⟩,Zf ?_,Zf ?_⟩
   ·dsimp only[YQ.F];rw[if_neg (by rw[he];simp)]
   ·dsimp only[Yj.F];rw[if_neg (by rw[he];simp)]
  |cons i c ih=>
   intro pre he hb f s h hf hh;have hpl:pre.length<x.Code.length:=by rw[he];simp
   have hi:x.Code[pre.length]=i:=by simp[he]
   have htl:pre.length<(tms x.Code).length:=by rw[Zex];exact hpl
   have ht:=Zy htl;have hti:=Zhv x.Code pre.length htl;generalize (tms x.Code)[pre.length]=t at ht hti
   have hrl:pre.length<rows.length:=by omega
   have hrw:=Zy hrl;have hrc:elt (rows.map conv) (pre.length:Int)=some (conv rows[pre.length]):=by
    rw[Zy (by rw[List.length_map];exact hrl),List.getElem_map]
   generalize rows[pre.length]=rw_ at hrw hrc
   have hnx:((pre ++ [i]).length:Int)=IntKind.i64.wrap ((pre.length:Int)+1):=by rw[Zu pre.length (by omega),List.length_append];rfl
   have hheap:∀v:Int,v=(if i.Op=22 then i.A else 0)→IntKind.i64.wrap (h+IntKind.i64.wrap (t*v))=if i.Op=22 then IntKind.i64.wrap (h+IntKind.i64.wrap (t*i.A))else h:=by
    intro v hv;by_cases h22:i.Op=22
    ·rw[if_pos h22]at hv ⊢;rw[hv]
    ·rw[if_neg h22]at hv ⊢;rw[hv,Int.mul_zero,show IntKind.i64.wrap 0=0 from rfl,Int.add_zero,ZbL hh]
   have hfuel:IntKind.i64.wrap (f+IntKind.i64.wrap (t*1))=IntKind.i64.wrap (f+t):=by rw[Int.mul_one,ZbL hti]
   have Z79:∀q,YQ.j2 m k kn x (tms x.Code,0) (pre.length:Int) f s h x.Result x.Reads x.Fuel x.Stack x.Heap rows i (if i.Op=22 then i.A else 0)=q→Zw (YQ.F m k kn) (.l1 x (tms x.Code,0) (pre.length:Int) f s h x.Result x.Reads x.Fuel x.Stack x.Heap rows)=q.bind fun z=>match z with | .inl t=>Zw (YQ.F m k kn) t | .inr r=>some r:=by
    intro q hq;rw[Z5g];dsimp only[YQ.F];rw[if_pos (by omega),Zy hpl,hi];simp only[bS];by_cases h22:i.Op=22
    ·rw[if_pos h22]at hq ⊢;rw[hq];cases q with
     |none=>rfl
     |some z=>cases z<;>rfl
    ·rw[if_neg h22]at hq ⊢;rw[hq];cases q with
     |none=>rfl
     |some z=>cases z<;>rfl
   have Zdt:∀q,Yj.j2 m k kn x (tms x.Code,0) (rows.map conv) (pre.length:Int) f s i t (if i.Op=22 then IntKind.i64.wrap (h+IntKind.i64.wrap (t*i.A))else h)=q→Zw (Yj.F m k kn) (.l1 x (tms x.Code,0) (rows.map conv) (pre.length:Int) f s h)=q.bind fun z=>match z with | .inl t=>Zw (Yj.F m k kn) t | .inr r=>some r:=by
    intro q hq;rw[Z5g];dsimp only[Yj.F];rw[if_pos (by omega),Zy hpl,hi];simp only[bS];rw[ht];simp only[bS];by_cases h22:i.Op=22
    ·rw[if_pos h22]at hq ⊢;rw[hq];cases q with
     |none=>rfl
     |some z=>cases z<;>rfl
    ·rw[if_neg h22]at hq ⊢;rw[hq];cases q with
     |none=>rfl
     |some z=>cases z<;>rfl
   generalize hh':(if i.Op=22 then IntKind.i64.wrap (h+IntKind.i64.wrap (t*i.A))else h)=h' at Zdt hheap
   have Zjl:In h':=by rw[←hh'];split;exact Z0B _;exact hh
   by_cases JN:i.Op=30
   ·rw[JO,if_pos JN,List.any_cons,Bool.or_eq_false_iff]at hb;have hA:=hb.1;simp only[VR,Bool.or_eq_false_iff,decide_eq_false_iff_not]at hA;have hA1:i.A.toNat<m.Methods.length:=by omega
    have e1:=Uu (xs:=m.Methods) (by omega) hA1;have e2:=Uu (xs:=kn) (by omega) (by omega:i.A.toNat<kn.length);generalize m.Methods[i.A.toNat]=om at e1
    generalize kn[i.A.toNat]=oc at e2
    generalize hhigh:IntKind.i64.wrap (IntKind.i64.wrap (IntKind.i64.wrap (IntKind.i64.wrap ((x.Args.length:Int)+(x.Zk.length:Int))+(rw_.Kinds.length:Int))-(om.Args.length:Int))+oc.Stack)=high;obtain⟨r,r1,r2⟩:=ih (pre ++ [i]) (by rw[he];simp) hb.2 (IntKind.i64.wrap (IntKind.i64.wrap (f+t)+IntKind.i64.wrap (t*oc.Fuel))) (if rw_.Reached=true∧high>s then high else s) (IntKind.i64.wrap (h'+IntKind.i64.wrap (t*oc.Heap))) (Z0B _) (Z0B _);refine⟨r,?_,?_⟩
    ·rw[Z79 (some (.inl (.l1 x (tms x.Code,0) ((pre ++ [i]).length:Int) (IntKind.i64.wrap (IntKind.i64.wrap (f+t)+IntKind.i64.wrap (t*oc.Fuel))) (if rw_.Reached=true∧high>s then high else s) (IntKind.i64.wrap (h'+IntKind.i64.wrap (t*oc.Heap))) x.Result x.Reads x.Fuel x.Stack x.Heap rows))) ?_]
     ·exact r1
     ·unfold YQ.j2 WW.f;rw[ht];simp only[bS];rw[if_pos JN,e1];simp only[bS];rw[e2];simp only[bS];unfold UY.f WW.f TT.f;simp only[bS];rw[hrw];simp only[bS];rw[hfuel,hheap _ rfl,hhigh];unfold YQ.j1;rw[hnx];by_cases hre:rw_.Reached=true
      ·rw[if_pos hre];simp only[bS,hre,true_and]
      ·rw[if_neg hre];simp only[bS];rw[if_neg (fun h=>hre h.1)]
    ·rw[Zdt (some (.inl (.l1 x (tms x.Code,0) (rows.map conv) ((pre ++ [i]).length:Int) (IntKind.i64.wrap (IntKind.i64.wrap (f+t)+IntKind.i64.wrap (t*oc.Fuel))) (if rw_.Reached=true∧high>s then high else s) (IntKind.i64.wrap (h'+IntKind.i64.wrap (t*oc.Heap)))))) ?_]
     ·exact r2
     ·unfold Yj.j2 Yj.j1;rw[if_neg (by simpa using JN),e2];simp only[bS];rw[ht];simp only[bS];rw[hrc];simp only[bS];rw[e1];simp only[bS];have hcond:((conv rw_).Reached&&decide (IntKind.i64.wrap (IntKind.i64.wrap (IntKind.i64.wrap (IntKind.i64.wrap ((x.Args.length:Int)+(x.Zk.length:Int))+((conv rw_).Kinds.length:Int))-(om.Args.length:Int))+oc.Stack)>s))=true↔(rw_.Reached=true∧high>s):=by
       rw[Bool.and_eq_true,decide_eq_true_eq];dsimp only[conv];rw[hhigh]
      by_cases hc:rw_.Reached=true∧high>s
      ·rw[if_pos (hcond.2 hc),if_pos hc,←hnx];dsimp only[conv];rw[hhigh]
      ·rw[if_neg (fun h=>hc (hcond.1 h)),if_neg hc,←hnx]
   ·rw[JO,if_neg JN]at hb;obtain⟨r,r1,r2⟩:=ih (pre ++ [i]) (by rw[he];simp) hb (IntKind.i64.wrap (f+t)) s h' (Z0B _) Zjl;refine⟨r,?_,?_⟩
    ·rw[Z79 (some (.inl (.l1 x (tms x.Code,0) ((pre ++ [i]).length:Int) (IntKind.i64.wrap (f+t)) s h' x.Result x.Reads x.Fuel x.Stack x.Heap rows))) ?_]
     ·exact r1
     ·unfold YQ.j2 WW.f;rw[ht];simp only[bS];rw[if_neg JN,hfuel,hheap _ rfl];unfold YQ.j1;rw[hnx]
    ·rw[Zdt (some (.inl (.l1 x (tms x.Code,0) (rows.map conv) ((pre ++ [i]).length:Int) (IntKind.i64.wrap (f+t)) s h'))) ?_]
     ·exact r2
     ·unfold Yj.j2 Yj.j1;rw[if_pos (by simpa using JN),←hnx]
 obtain⟨r,r1,r2⟩:=main x.Code [] rfl hb 0 ((x.Args.length:Int)+(x.Zk.length:Int)+H rows rows.length) 0 ⟨by omega,by omega⟩ ⟨by omega,by omega⟩;refine⟨r,?_,?_⟩
 ·unfold YQ.f;rw[←r1];refine Ze ?_;dsimp only[YQ.F];rw[hx];simp only[bS];rw[hr];simp only[bS];rw[t1];simp only[bS];rw[Zb4 (by omega)];simp only[bS];unfold TS.f;simp only[bS];rw[hn0];congr 2;by_cases h0:(x.Args.length:Int)+(x.Zk.length:Int)+H rows rows.length>0
  ·rw[if_pos h0];rfl
  ·rw[if_neg h0,show(x.Args.length:Int)+(x.Zk.length:Int)+H rows rows.length=0 by omega];rfl
 ·unfold Yj.f;rw[←r2];refine Ze ?_;dsimp only[Yj.F];rw[hx];simp only[bS];rw[g2];simp only[bS];rw[t2];simp only[bS];rw[ZfT (by omega)];simp only[bS];rw[hn0];rfl
end XG
namespace XG
open Zz Y8 Xd
theorem ZhR(c:ZM)(x:Zb):∃b,Z00.f c x=some b∧TI.f c x=some b:=by
 unfold Z00.f Tg.f TI.f;simp only[bS,Zdm];refine⟨_,rfl,?_⟩;split
 ·rename_i h
  simp at h ⊢;omega
 ·split
  ·rename_i h1 h2
   simp at h1 h2 ⊢;omega
  ·rename_i h1 h2
   simp at h1 h2 ⊢;rw[Bool.eq_iff_iff];simp;omega
theorem ZfW{m:Zc}(hm:XK m)(S:Small m):∃L e,YK.f m=some (L,e)∧Yv.f m=some (L,e)∧L.length≤40:=by
 have hM:=S.M;have F:Fit m:=⟨S.M,fun x hx=>(S.x x hx).2.2⟩
 have p0:=Z69 F;have r0:=Zbb F;unfold YK.f Yv.f;by_cases hb:TA m=true
 ·rw[if_pos hb]at p0 r0;refine⟨[],2,Zf ?_,Zf ?_,by simp⟩
  ·dsimp only[YK.F];rw[p0,bS,if_pos (by simp)]
  ·dsimp only[Yv.F];rw[r0,bS,if_pos (by simp)]
 ·rw[if_neg hb]at p0 r0;have hok:=ZaD (W:=YW m) m.Methods.length [] (by simp);have hWl:(YW m).length=m.Methods.length:=by simp[YW]
  generalize JQ (YW m) m.Methods.length []=oe at p0 r0 hok
  obtain⟨o,e⟩:=oe;by_cases he:e=0
  ·subst he;obtain⟨ho1,ho2⟩:=hok rfl;have hol:o.length=m.Methods.length:=by simpa using ho1
   have A:Zw (YK.F m) .start=Zw (YK.F m) (.l1 (o,0) ((0:Nat):Int)):=Ze (by dsimp only[YK.F];rw[p0,bS,if_neg (by simp)];rfl);have B:Zw (Yv.F m) .start=Zw (Yv.F m) (.l1 (o,0) ((0:Nat):Int)):=Ze (by dsimp only[Yv.F];rw[r0,bS,if_neg (by simp)];rfl);rw[A,B];have go:(∀k (hk:k<m.Methods.length),∃rows,YF.f m k=some (rows,0))→∀(c pre:List Int) (l:List ZM),o=pre++c→l.length=m.Methods.length→∃L e,Zw (YK.F m) (.l2 (o,0) l (pre.length:Int))=some (L,e)∧Zw (Yv.F m) (.l2 (o,0) l (pre.length:Int))=some (L,e)∧L.length≤40:=by
    intro hrows c;induction c with
    |nil=>
     intro pre l hp hl;refine⟨l,0,Zf ?_,Zf ?_,by omega⟩
     ·dsimp only[YK.F];rw[if_neg (by rw[hp];simp)]
     ·dsimp only[Yv.F];rw[if_neg (by rw[hp];simp)]
    |cons a c ih=>
     intro pre l hp hl;have hpl:pre.length<o.length:=by rw[hp];simp
     have hi:o[pre.length]=a:=by simp[hp]
     obtain⟨a0,a1⟩:=ho2 a (by rw[hp];simp);have hk:a.toNat<m.Methods.length:=by omega
     have hak:((a.toNat:Nat):Int)=a:=by omega
     obtain⟨rows,hr⟩:=hrows a.toNat hk;have hbk:(nm m.Methods[a.toNat].Code).any (VR m.Methods.length)=false:=by
      have:=List.any_eq_false.1 (show(m.Methods.any fun x=>(nm x.Code).any (VR m.Methods.length))=false by simpa[TA]using hb) _ (List.getElem_mem hk);simpa using this
     obtain⟨ct,c1,c2⟩:=Z8C (kn:=l) hm S hk hbk hl hr;rw[hak]at c1 c2;obtain⟨fb,f1,f2⟩:=ZhR ct m.Methods[a.toNat];have e1:=Uu (xs:=l) a0 (by omega);have e2:elt (l.set a.toNat ct) a=some ct:=by
      rw[Uu (xs:=l.set a.toNat ct) a0 (by rw[List.length_set];omega)];simp
     have e3:=Uu (xs:=m.Methods) a0 hk;cases fb with
     |false=>
      refine⟨[],120,Zf ?_,Zf ?_,by simp⟩
      ·dsimp only[YK.F];rw[if_pos (by omega),Zy hpl,hi];simp only[bS];rw[c1];simp only[bS];rw[e1];simp only[bS];rw[e2];simp only[bS];rw[e3];simp only[bS];rw[f1];simp only[bS];rw[if_pos (by simp)]
      ·dsimp only[Yv.F];rw[if_pos (by omega),Zy hpl,hi];simp only[bS];rw[c2];simp only[bS];rw[e1];simp only[bS];rw[e2];simp only[bS];rw[e3];simp only[bS];rw[f2];simp only[bS];rw[if_pos (by simp)]
     |true=>
      obtain⟨L,e,g1,g2,g3⟩:=ih (pre ++ [a]) (l.set a.toNat ct) (by rw[hp];simp) (by rw[List.length_set];exact hl);refine⟨L,e,?_,?_,g3⟩
      ·rw[←g1];refine Ze ?_;dsimp only[YK.F];rw[if_pos (by omega),Zy hpl,hi];simp only[bS];rw[c1];simp only[bS];rw[e1];simp only[bS];rw[e2];simp only[bS];rw[e3];simp only[bS];rw[f1];simp only[bS];rw[if_neg (by simp),Zu pre.length (by omega),List.length_append];rfl
      ·rw[←g2];refine Ze ?_;dsimp only[Yv.F];rw[if_pos (by omega),Zy hpl,hi];simp only[bS];rw[c2];simp only[bS];rw[e1];simp only[bS];rw[e2];simp only[bS];rw[e3];simp only[bS];rw[f2];simp only[bS];rw[if_neg (by simp),Zu pre.length (by omega),List.length_append];rfl
   have scan:∀(j k:Nat),k+j=m.Methods.length→(∀q (hq:q<k),∃rows,YF.f m q=some (rows,0))→∃L e,Zw (YK.F m) (.l1 (o,0) (k:Int))=some (L,e)∧Zw (Yv.F m) (.l1 (o,0) (k:Int))=some (L,e)∧L.length≤40:=by
    intro j;induction j with
    |zero=>
     intro k hk hq;obtain⟨L,e,g1,g2,g3⟩:=go (fun q hq'=>hq q (by omega)) o [] (List.replicate o.length ZM.zero) rfl (by rw[List.length_replicate];simpa using ho1);refine⟨L,e,?_,?_,g3⟩
     ·rw[←g1];refine Ze ?_;dsimp only[YK.F]
      rw [if_neg (by omega), if_pos (by have:o.length=m.Methods.length:=by simpa using ho1
                                        omega)]
      simp
     ·rw[←g2];refine Ze ?_;dsimp only[Yv.F]
      rw [if_neg (by omega), if_pos (by have:o.length=m.Methods.length:=by simpa using ho1
                                        omega)]
      simp
    |succ j ihj=>
     intro k hk hq;have hkl:k<m.Methods.length:=by omega
     obtain⟨rows,e,g1,g2,-⟩:=Z7g hm S hkl;by_cases he:e=0
     ·subst he;obtain⟨L,e,i1,i2,i3⟩:=ihj (k+1) (by omega) (fun q hq'=>by
       by_cases hqk:q=k
       ·subst hqk;exact⟨rows,g1⟩
       ·exact hq q (by omega))
      refine⟨L,e,?_,?_,i3⟩
      ·rw[←i1];refine Ze ?_;dsimp only[YK.F];unfold Uo.f;rw[if_pos (by omega),g1];simp only[bS];rw[if_neg (by simp),Zu k (by omega)]
      ·rw[←i2];refine Ze ?_;dsimp only[Yv.F];rw[if_pos (by omega),g2];simp only[bS];rw[if_neg (by simp),Zu k (by omega)]
     ·refine⟨[],e,Zf ?_,Zf ?_,by simp⟩
      ·dsimp only[YK.F];unfold Uo.f;rw[if_pos (by omega),g1];simp only[bS];rw[if_pos he]
      ·dsimp only[Yv.F];rw[if_pos (by omega),g2];simp only[bS];rw[if_pos he]
   exact scan m.Methods.length 0 (by omega) (fun q hq=>by omega)
  ·refine⟨[],e,Zf ?_,Zf ?_,by simp⟩
   ·dsimp only[YK.F];rw[p0,bS,if_pos he]
   ·dsimp only[Yv.F];rw[r0,bS,if_pos he]
end XG
namespace Y8
open Zz
theorem Z87{l:List Zp}(h:l.length<4611686018427387904):XD.f l l=some true:=by
 unfold XD.f;rw[Ze (t :=.l1 ((0:Nat):Int)) (by dsimp only[XD.F];rw[if_neg (by simp)];rfl)];refine(TF (F:=XD.F l l) (n:=l.length) (fun k =>.l1 (k:Int)) (fun k hk=>?_)).trans (Zf ?_)
 ·dsimp only[XD.F];rw[if_pos (by omega),Zy hk];simp only[bS];rw[if_neg (by simp),Zu k (by omega)]
 ·dsimp only[XD.F];rw[if_neg (by omega)]
theorem ZhS{l:List Z7}(h:l.length<4611686018427387904):Wm.f l l=some true:=by
 unfold Wm.f;rw[Ze (t :=.l1 ((0:Nat):Int)) (by dsimp only[Wm.F];rw[if_neg (by simp)];rfl)];refine(TF (F:=Wm.F l l) (n:=l.length) (fun k =>.l1 (k:Int)) (fun k hk=>?_)).trans (Zf ?_)
 ·dsimp only[Wm.F];rw[if_pos (by omega),Zy hk];simp only[bS];rw[if_neg (by simp),Zu k (by omega)]
 ·dsimp only[Wm.F];rw[if_neg (by omega)]
theorem ZdK{m:Zc}(S:Small m):YX.f m m=some true:=by
 have h1:=S.G;have h2:=S.P;have h3:=S.M;unfold YX.f;rw[Ze (t :=.l1 ((0:Nat):Int)) (by
  dsimp only[YX.F];rw[if_neg (by simp),Z87 (by omega)];simp only[bS];rw[if_neg (by simp),Z87 (by omega)];simp only[bS];rw[if_neg (by simp)];rfl)]
 refine(TF (F:=YX.F m m) (n:=m.Methods.length) (fun k =>.l1 (k:Int)) (fun k hk=>?_)).trans (Zf ?_)
 ·have hs:=S.x _ (List.getElem_mem hk);dsimp only[YX.F];rw[if_pos (by omega),Zy hk];simp only[bS];unfold Kz.f;rw[Z6b (by omega)];simp only[bS];rw[if_pos (by simp),Z6b (by omega)];simp only[bS];rw[if_neg (by simp),ZhS (by omega)];simp only[bS];unfold YX.j1;rw[if_neg (by simp),Zu k (by omega)]
 ·dsimp only[YX.F];rw[if_neg (by omega)]
end Y8
namespace YA
open Zz Y8 Xd XG
theorem Zlm{n:Int}{w:Nat}(hw:w<8):Z4j .i64 n (8*(w:Int))=n / 256 ^ w:=by
 unfold Z4j;have e:min (8*(w:Int)).toNat IntKind.i64.bits=8*w:=by have:IntKind.i64.bits=64:=rfl;omega
 rw[e,Int.fdiv_eq_ediv_of_nonneg _ (Int.le_of_lt (Int.pow_pos (by omega))),Int.pow_mul];rfl
theorem Z4c{n:Int}{w:Nat}(hw:w<8)(h0:0≤n)(h1:n<256 ^ w):(VG w n).2=0∧(VG w n).1.length=w:=by
 have hf:fB w n=true:=by
  unfold fB;rw[Zlm hw,Int.ediv_eq_zero_of_lt h0 h1];simp[h0]
 unfold VG;rw[if_pos hf];exact⟨rfl,Z4b n w⟩
theorem Z9C{w:Nat}{n:Int}(h1:1≤w)(hw:w<8)(h0:0≤n)(hn:n<256 ^ w):∃r,X0.f w n=some (r,0)∧r.length=w:=by
 have go:∀(d k:Nat) (l:List Int) (x:Int),k+d=w→l.length=k→0≤x→x<256 ^ d→∃r,Zw (X0.F w n) (.l1 x l (k:Int))=some (r,0)∧r.length=w:=by
  intro d;induction d with
  |zero=>
   intro k l x hk hl hx0 hx;have:x=0:=by simp at hx;omega
   subst this;refine⟨l,Zf ?_,by omega⟩;dsimp only[X0.F];rw[if_neg (by omega),if_neg (by omega)]
  |succ d ih=>
   intro k l x hk hl hx0 hx;have hx8:x<18446744073709551616:=by
    refine Int.lt_of_lt_of_le hx ?_;have h7:(256:Nat) ^ (d+1)≤256 ^ 7:=Nat.pow_le_pow_right (by omega) (by omega);have h8:((256 ^ (d+1):Nat):Int)≤((256 ^ 7:Nat):Int):=by omega
    rw[Int.natCast_pow]at h8;exact Int.le_trans h8 (by decide)
   have hdiv:Int.tdiv x 256=x / 256:=Int.tdiv_eq_ediv_of_nonneg hx0;have hq:x / 256<256 ^ d:=Int.ediv_lt_of_lt_mul (by omega) (by rw[Int.pow_succ]at hx;exact hx);obtain⟨r,e,hr⟩:=ih (k+1) (l ++ [IntKind.u8.wrap (Int.tmod x 256)]) (x / 256) (by omega) (by simp[hl]) (by omega) hq;refine⟨r,(Ze ?_).trans e,hr⟩;dsimp only[X0.F];rw[if_pos (by omega),if_pos (by simp;omega),hdiv,ZW (x:=x / 256) (by omega) (by omega),Zu k (by omega)]
 obtain⟨r,e,hr⟩:=go w 0 [] n (by omega) rfl h0 hn;refine⟨r,(Ze ?_).trans e,hr⟩;dsimp only[X0.F];rw[if_neg (by simp;omega),if_neg (by omega)];rfl
theorem Zjv(n:Int):∃r,Zq.f n=some r∧r.length=8:=by
 have j9:∀a b c d e f g h i j,∃r,Zq.j9 a b c d e f g h i j=some r∧r.length=8:=fun a b c d e f g h i j=>by
  unfold Zq.j9;rw[if_pos (by simp)];exact⟨_,rfl,by simp⟩
 have j8:∀a b c d e f g h i,∃r,Zq.j8 a b c d e f g h i=some r∧r.length=8:=fun a b c d e f g h i=>by
  unfold Zq.j8;rw[if_pos (by simp)];split<;>exact j9 _ _ _ _ _ _ _ _ _ _
 have j7:∀a b c d e f g h,∃r,Zq.j7 a b c d e f g h=some r∧r.length=8:=fun a b c d e f g h=>by
  unfold Zq.j7;rw[if_pos (by simp)];split<;>exact j8 _ _ _ _ _ _ _ _ _
 have j6:∀a b c d e f g,∃r,Zq.j6 a b c d e f g=some r∧r.length=8:=fun a b c d e f g=>by
  unfold Zq.j6;rw[if_pos (by simp)];split<;>exact j7 _ _ _ _ _ _ _ _
 have j5:∀a b c d e f,∃r,Zq.j5 a b c d e f=some r∧r.length=8:=fun a b c d e f=>by
  unfold Zq.j5;rw[if_pos (by simp)];split<;>exact j6 _ _ _ _ _ _ _
 have j4:∀a b c d e,∃r,Zq.j4 a b c d e=some r∧r.length=8:=fun a b c d e=>by
  unfold Zq.j4;rw[if_pos (by simp)];split<;>exact j5 _ _ _ _ _ _
 have j3:∀a b c d,∃r,Zq.j3 a b c d=some r∧r.length=8:=fun a b c d=>by
  unfold Zq.j3;rw[if_pos (by simp)];split<;>exact j4 _ _ _ _ _
 have j2:∀a b c,∃r,Zq.j2 a b c=some r∧r.length=8:=fun a b c=>by
  unfold Zq.j2;rw[if_pos (by simp)];split<;>exact j3 _ _ _ _
 have j1:∀a b,∃r,Zq.j1 a b=some r∧r.length=8:=fun a b=>by
  unfold Zq.j1;split<;>exact j2 _ _ _
 unfold Zq.f;split<;>exact j1 _ _
theorem Zdu(v:Zp):Uk.f v=some (J2 v):=by
 obtain⟨k,a,b⟩:=v;unfold Uk.f KX.f J2;by_cases h1:k=1
 ·subst h1;by_cases h2:b=0<;>simp[h2]
 ·by_cases h2:k=2
  ·subst h2;simp only[show decide ((2:Int)=1)=false from rfl,Bool.false_and,Bool.false_or,show decide ((2:Int)=2)=true from rfl,Bool.true_and,if_neg Bool.false_ne_true,if_pos,bS];congr 1;rw[Bool.eq_iff_iff];simp only[Bool.and_eq_true,decide_eq_true_eq,true_and];omega
  ·simp[h1,h2]
def vSz(v:Zp):Nat:=if v.Kind=1 then 9 else 7
theorem ZoN{v:Zp}(h:J2 v=true)(hk:v.Kind≠1):(0≤v.A+1048576∧v.A+1048576<16777216)∧0≤v.B+1048576∧v.B+1048576<16777216:=by
 unfold J2 at h;simp[hk]at h;omega
theorem ZwC{v:Zp}(h:J2 v=true):(JR v).2=0∧(JR v).1.length=vSz v∧∃o,UZ.f v=some (o,0)∧o.length=vSz v:=by
 unfold JR vSz UZ.f;rw[Zdu,h];simp only[bS];by_cases hk:v.Kind=1
 ·obtain⟨r,e,hr⟩:=Zjv v.A;rw[if_neg (by simp),if_pos hk,if_pos hk,if_neg (by simp),if_pos hk,e];simp only[bS];rw[if_pos (by simp[hr])];exact⟨trivial,by simp[Z4b],_,rfl,by simp[hr]⟩
 ·obtain⟨⟨a0,a1⟩,b0,b1⟩:=ZoN h hk;obtain⟨p1,p2⟩:=Z4c (w:=3) (by omega) a0 a1;obtain⟨q1,q2⟩:=Z4c (w:=3) (by omega) b0 b1;obtain⟨r,e,hr⟩:=Z9C (w:=3) (by omega) (by omega) a0 a1;obtain⟨s,f,hs⟩:=Z9C (w:=3) (by omega) (by omega) b0 b1;rw[ZW (x:=v.A+1048576) (by omega) (by omega),ZW (x:=v.B+1048576) (by omega) (by omega)];rw[show((3:Nat):Int)=3 from rfl]at e f;rw[if_neg (by simp),if_neg hk,if_neg (by simp[p1]),if_neg (by simp[q1]),if_neg hk,if_neg (by simp),if_neg hk,e];simp only[bS];rw[f];simp only[bS];rw[if_pos (by simp[hr]),if_pos (by simp[hr,hs])];exact⟨trivial,by simp[p2,q2],_,rfl,by simp[hr,hs]⟩
end YA
namespace YA
open Zz Y8 Xd XG
theorem ZhU{l:List Zp}(hl:l.length≤100):Wj.f l=some (Z4L l):=by
 have go:∀(c pre:List Zp),l=pre++c→pre.length≤33→(∀v∈pre,J2 v=true)→Zw (Wj.F l) (.l1 (pre.length:Int))=some (Z4L l):=by
  intro c;induction c with
  |nil=>
   intro pre he h33 hp;refine Zf ?_;dsimp only[Wj.F];rw[if_neg (by rw[he];simp)];have:(l.any fun v => !J2 v)=false:=by rw[he,List.append_nil,List.any_eq_false];intro v hv;simp[hp v hv]
   unfold Z4L;rw[this];simp;omega
  |cons v c ih=>
   intro pre he h33 hp;by_cases h:pre.length≤32
   ·have hpl:pre.length<l.length:=by rw[he];simp
    have hv:l[pre.length]=v:=by simp[he]
    cases hm:J2 v with
    |true=>
     rw[←ih (pre ++ [v]) (by rw[he];simp) (by simp;omega) (fun x hx=>by
      rcases List.mem_append.1 hx with h1|h1
      ·exact hp x h1
      ·rw[List.mem_singleton]at h1;subst h1;exact hm)]
     refine Ze ?_;dsimp only[Wj.F];rw[if_pos (by simp;omega),Zy hpl,hv,bS,Zdu,hm];simp only[bS];rw[if_neg (by simp),Zu pre.length (by omega)];simp
    |false=>
     refine Zf ?_;dsimp only[Wj.F];rw[if_pos (by simp;omega),Zy hpl,hv,bS,Zdu,hm];simp only[bS];have:(l.any fun v => !J2 v)=true:=List.any_eq_true.2 ⟨v,by rw[he];simp,by simp[hm]⟩;unfold Z4L;rw[this];simp
   ·refine Zf ?_;dsimp only[Wj.F];have:¬l.length≤32:=by rw[he];simp;omega
    rw[if_neg (by simp;omega)];unfold Z4L;simp[this];omega
 unfold Wj.f;rw[Ze (t :=.l1 ((0:Nat):Int)) rfl];exact go l [] rfl (by simp) (by simp)
theorem Zbg{l:List Zp}(hl:l.length≤100):∃o,Xh.f l=some (o,(WL l).2)∧o.length=(WL l).1.length∧o.length≤1000:=by
 unfold Xh.f WL;cases hm:Z4L l with
 |false=>
  refine⟨[],Zf ?_,by simp,by simp⟩;dsimp only[Xh.F];rw[ZhU hl,hm];rfl
 |true=>
  have hall:∀v∈l,J2 v=true:=by
   intro v hv;unfold Z4L at hm;rw[Bool.and_eq_true]at hm;have:=hm.2;rw[Bool.not_eq_true',List.any_eq_false]at this;have:=this v hv;simpa using this
  have go:∀(c pre:List Zp) (o o':List Int),l=pre++c→o.length=o'.length→o.length≤9*pre.length+1→∃r,Zw (Xh.F l) (.l1 o (pre.length:Int))=some (r,(Ju c o').2)∧r.length=(Ju c o').1.length∧r.length≤1000:=by
   intro c;induction c with
   |nil=>
    intro pre o o' he hoo ho;have hpl:pre.length=l.length:=by rw[he];simp
    refine⟨o,Zf ?_,by simpa[Ju]using hoo,by omega⟩;dsimp only[Xh.F,Ju];rw[if_neg (by rw[he];simp)]
   |cons v c ih=>
    intro pre o o' he hoo ho;have hpl:pre.length<l.length:=by rw[he];simp
    have hv:l[pre.length]=v:=by simp[he]
    obtain⟨z1,z2,z,z3,z4⟩:=ZwC (hall v (by rw[he];simp));have hsz:vSz v≤9:=by unfold vSz;split<;>omega
    obtain⟨r,e,h1,h2⟩:=ih (pre ++ [v]) (o++z) (o'++(JR v).1) (by rw[he];simp) (by simp;omega) (by simp;omega);have hp:Ju (v::c) o'=Ju c (o'++(JR v).1):=by rw[Ju,if_neg (by simp[z1])]
    rw[hp];refine⟨r,(Ze ?_).trans e,h1,h2⟩;dsimp only[Xh.F];rw[if_pos (by omega),Zy hpl,hv,bS,z3];simp only[bS];rw[if_pos (by omega),Zu pre.length (by omega)];simp
  obtain⟨r,e,h1,h2⟩:=go l [] [IntKind.u8.wrap (l.length:Int)] [IntKind.u8.wrap (l.length:Int)] rfl rfl (by simp);rw[if_neg (by simp)];refine⟨r,(Ze ?_).trans e,h1,h2⟩;dsimp only[Xh.F];rw[ZhU hl,hm];rfl
theorem ZhV(k:Int):loc k=(decide (k=1)||decide (k=2)||decide (k=3)):=by
 unfold loc J2;by_cases h1:k=1<;>by_cases h2:k=2<;>simp[h1,h2]
theorem ZaH{l:List Int}(hl:l.length≤100):X7.f l=some (l.all loc):=by
 have go:∀(c pre:List Int),l=pre++c→(∀v∈pre,loc v=true)→Zw (X7.F l) (.l1 (pre.length:Int))=some (l.all loc):=by
  intro c;induction c with
  |nil=>
   intro pre he hp;refine Zf ?_;dsimp only[X7.F];have:l.all loc=true:=by rw[he,List.append_nil,List.all_eq_true];exact hp
   rw[if_neg (by rw[he];simp),this]
  |cons v c ih=>
   intro pre he hp;have hpl:pre.length<l.length:=by rw[he];simp
   have hv:l[pre.length]=v:=by simp[he]
   have body:X7.F l (.l1 (pre.length:Int))=if loc v=true then some (.inl (.l1 (IntKind.i64.wrap ((pre.length:Int)+1))))else some (.inr false):=by
    dsimp only[X7.F];rw[if_pos (by omega),Zy hpl,hv,ZhV];simp only[bS];by_cases h1:v=1<;>by_cases h2:v=2<;>by_cases h3:v=3<;>simp[h1,h2,h3]
   cases hm:loc v with
   |true=>
    rw[←ih (pre ++ [v]) (by rw[he];simp) (fun x hx=>by
     rcases List.mem_append.1 hx with h1|h1
     ·exact hp x h1
     ·rw[List.mem_singleton]at h1;subst h1;exact hm)]
    refine Ze ?_;rw[body,if_pos hm,Zu pre.length (by omega)];simp
   |false=>
    refine Zf ?_;have:l.all loc=false:=by rw[List.all_eq_false];exact⟨v,by rw[he];simp,by simp[hm]⟩
    rw[body,if_neg (by simp[hm]),this]
 unfold X7.f;rw[Ze (t :=.l1 ((0:Nat):Int)) rfl];exact go l [] rfl (by simp)
theorem ZhW{x:Zb}(h1:x.Args.length≤100)(h2:x.Zk.length≤100):Ul.f x=some (Z5e x):=by
 unfold Ul.f Z5e;rw[ZaH h1,ZaH h2,ZW (x:=16-(x.Args.length:Int)) (by omega) (by omega)];simp only[bS];have e:((x.Args++x.Zk).any fun k => !loc k) = !(x.Args.all loc&&x.Zk.all loc):=by
  rw[List.any_append,Bool.not_and];simp[List.not_all_eq_any_not]
 rw[e];by_cases ha:x.Args.length>4∨x.Args.length+x.Zk.length>16
 ·have c1:(decide ((x.Args.length:Int)>4)||decide ((x.Zk.length:Int)>16-(x.Args.length:Int)))=true:=by simp;omega
  have c2:x.Args.length>4∨x.Args.length+x.Zk.length>16∨(x.Result≠1∧x.Result≠2):=by omega
  rw[if_pos c1,if_pos c2];rfl
 ·have c1:¬(decide ((x.Args.length:Int)>4)||decide ((x.Zk.length:Int)>16-(x.Args.length:Int)))=true:=by simp;omega
  rw[if_neg c1];by_cases hr:x.Result≠1∧x.Result≠2
  ·have c2:x.Args.length>4∨x.Args.length+x.Zk.length>16∨(x.Result≠1∧x.Result≠2):=by omega
   have c3:(decide (x.Result≠1)&&decide (x.Result≠2))=true:=by simp[hr]
   rw[if_pos c2,c3];cases x.Args.all loc<;>cases x.Zk.all loc<;>rfl
  ·have c2:¬(x.Args.length>4∨x.Args.length+x.Zk.length>16∨(x.Result≠1∧x.Result≠2)):=by omega
   have c3:(decide (x.Result≠1)&&decide (x.Result≠2))=false:=by
    rw[Bool.and_eq_false_iff,decide_eq_false_iff_not,decide_eq_false_iff_not];omega
   rw[if_neg c2,c3];cases x.Args.all loc<;>cases x.Zk.all loc<;>first|rfl|skip
   rw[if_neg (show ¬(!(true&&true))=true by simp)];show some _=some _;congr 1;rw[Bool.eq_iff_iff];simp only[Bool.and_eq_true,decide_eq_true_eq];omega
end YA
namespace YA
open Zz Y8 Xd XG
theorem ZoP(n:Fin 256):(match Vx.f (n.1:Int)with|some b=>decide (0≤b.1∧b.2<65536∧((n.1:Int)<33∨b.2<b.1))|none=>false)=true:=by
 revert n;decide +kernel
theorem ZsX{i:Z7}(h0:0≤i.Op)(h1:i.Op<256)(h:may i=true):0≤i.A∧i.A<65536:=by
 obtain⟨n,hn⟩:=Int.eq_ofNat_of_zero_le h0;have t:=ZoP ⟨n,by omega⟩;unfold may at h;rw[hn]at h;dsimp only at t;cases hb:Vx.f (n:Int)with
 |none=>rw[hb]at h;cases h
 |some b=>
  rw[hb]at h t;simp only[Bool.and_eq_true,decide_eq_true_eq]at h t;omega
theorem Zdw{i:Z7}(h:Y5 i):Uc.f i.Op=some (Z45 i.Op):=by
 obtain⟨h0,h1⟩:=Z7E h;obtain⟨b,hb,hb'⟩:=Z84 h0 h1;unfold Uc.f Z45;rw[hb,hb'];rfl
theorem ZhX{l:List Z7}(hl:l.length≤300)(hw:∀x∈l,Y5 x):Wl.f l=some (Z4M l):=by
 have go:∀(c pre:List Z7),l=pre++c→pre.length≤201→(∀v∈pre,may v=true)→Zw (Wl.F l) (.l1 (pre.length:Int))=some (Z4M l):=by
  intro c;induction c with
  |nil=>
   intro pre he h33 hp;refine Zf ?_;dsimp only[Wl.F];rw[if_neg (by rw[he];simp)];have:(l.any fun v => !may v)=false:=by rw[he,List.append_nil,List.any_eq_false];intro v hv;simp[hp v hv]
   unfold Z4M;rw[this];rw[Bool.not_false,Bool.and_true];congr 2;rw[Bool.eq_iff_iff];simp only[Bool.and_eq_true,decide_eq_true_eq];omega
  |cons v c ih=>
   intro pre he h33 hp;by_cases h:pre.length≤200
   ·have hpl:pre.length<l.length:=by rw[he];simp
    have hv:l[pre.length]=v:=by simp[he]
    have hvm:v∈l:=by rw[he];simp
    cases hm:may v with
    |true=>
     rw[←ih (pre ++ [v]) (by rw[he];simp) (by simp;omega) (fun x hx=>by
      rcases List.mem_append.1 hx with h1|h1
      ·exact hp x h1
      ·rw[List.mem_singleton]at h1;subst h1;exact hm)]
     refine Ze ?_;dsimp only[Wl.F];rw[if_pos (by simp;omega),Zy hpl,hv,bS,Z5y (hw v hvm),hm];simp only[bS];rw[if_neg (by simp),Zu pre.length (by omega)];simp
    |false=>
     refine Zf ?_;dsimp only[Wl.F];rw[if_pos (by simp;omega),Zy hpl,hv,bS,Z5y (hw v hvm),hm];simp only[bS];have:(l.any fun v => !may v)=true:=List.any_eq_true.2 ⟨v,hvm,by simp[hm]⟩;unfold Z4M;rw[this];simp
   ·refine Zf ?_;dsimp only[Wl.F];have:¬l.length≤200:=by rw[he];simp;omega
    rw[if_neg (by simp;omega)];unfold Z4M;have e:decide ((l.length:Int)≤200)=false:=by rw[decide_eq_false_iff_not];omega
    simp[this,e]
 unfold Wl.f;rw[Ze (t :=.l1 ((0:Nat):Int)) rfl];exact go l [] rfl (by simp) (by simp)
theorem ZhY{l:List Z7}(hl:l.length≤300)(hw:∀x∈l,Y5 x):∃o,Yz.f l=some (o,(UL l).2)∧o.length=(UL l).1.length∧o.length≤1000:=by
 unfold Yz.f UL;cases hm:Z4M l with
 |false=>
  refine⟨[],Zf ?_,by simp,by simp⟩;dsimp only[Yz.F];rw[ZhX hl hw,hm];rfl
 |true=>
  have hall:∀v∈l,may v=true:=by
   intro v hv;unfold Z4M at hm;rw[Bool.and_eq_true]at hm;have:=hm.2;rw[Bool.not_eq_true',List.any_eq_false]at this;have:=this v hv;simpa using this
  have go:∀(c pre:List Z7) (o o':List Int),l=pre++c→o.length=o'.length→o.length≤3*pre.length+1→∃r,Zw (Yz.F l) (.l1 o (pre.length:Int))=some (r,(Kt c o').2)∧r.length=(Kt c o').1.length∧r.length≤1000:=by
   intro c;induction c with
   |nil=>
    intro pre o o' he hoo ho;have hpl:pre.length=l.length:=by rw[he];simp
    refine⟨o,Zf ?_,by simpa[Kt]using hoo,by omega⟩;dsimp only[Yz.F,Kt];rw[if_neg (by rw[he];simp)]
   |cons v c ih=>
    intro pre o o' he hoo ho;have hpl:pre.length<l.length:=by rw[he];simp
    have hv:l[pre.length]=v:=by simp[he]
    have hvm:v∈l:=by rw[he];simp
    obtain⟨w0,w1⟩:=Z7E (hw v hvm);obtain⟨a0,a1⟩:=ZsX w0 w1 (hall v hvm);obtain⟨p1,p2⟩:=Z4c (w:=2) (by omega) a0 a1;have nx:((pre ++ [v]).length:Int)=(pre.length:Int)+1:=by simp
    cases hwd:Z45 v.Op with
    |true=>
     obtain⟨r,e,h1,h2⟩:=ih (pre ++ [v]) ((o ++ [v.Op]) ++ [IntKind.u8.wrap (Int.tmod v.A 256),IntKind.u8.wrap (IntKind.i64.wrap (Int.tdiv v.A 256))]) ((o' ++ [v.Op])++(VG 2 v.A).1) (by rw[he];simp) (by simp;omega) (by simp;omega);have hp:Kt (v::c) o'=Kt c ((o' ++ [v.Op])++(VG 2 v.A).1):=by rw[Kt,if_pos hwd,if_neg (by simp[p1])]
     rw[hp];refine⟨r,(Ze ?_).trans e,h1,h2⟩;dsimp only[Yz.F];rw[if_pos (by omega),Zy hpl,hv];simp only[bS];rw[if_pos (by simp;omega),Zdw (hw v hvm),hwd];simp only[bS];rw[if_pos trivial,if_pos (by simp;omega)];unfold Yz.j1;rw[Zu pre.length (by omega),nx];rfl
    |false=>
     obtain⟨r,e,h1,h2⟩:=ih (pre ++ [v]) (o ++ [v.Op]) (o' ++ [v.Op]) (by rw[he];simp) (by simp;omega) (by simp;omega);have hp:Kt (v::c) o'=Kt c (o' ++ [v.Op]):=by rw[Kt,if_neg (by simp[hwd])]
     rw[hp];refine⟨r,(Ze ?_).trans e,h1,h2⟩;dsimp only[Yz.F];rw[if_pos (by omega),Zy hpl,hv];simp only[bS];rw[if_pos (by simp;omega),Zdw (hw v hvm),hwd];simp only[bS];rw[if_neg (by simp)];unfold Yz.j1;rw[Zu pre.length (by omega),nx];rfl
  obtain⟨r,e,h1,h2⟩:=go l [] [IntKind.u8.wrap (l.length:Int)] [IntKind.u8.wrap (l.length:Int)] rfl rfl (by simp);rw[if_neg (by simp)];refine⟨r,(Ze ?_).trans e,h1,h2⟩;dsimp only[Yz.F];rw[ZhX hl hw,hm];rfl
end YA
namespace YA
open Zz Y8 Xd XG
theorem ZhZ{x:Zb}(h1:x.Args.length≤100)(h2:x.Zk.length≤100):∃o,WE.f x=some (o,(Uy x).2)∧o.length=(Uy x).1.length∧o.length≤1000:=by
 unfold WE.f Uy;rw[ZhW h1 h2];simp only[bS];cases hm:Z5e x with
 |false=>exact⟨[],rfl,by simp,by simp⟩
 |true=>
  have hb:(0≤x.Fuel∧x.Fuel≤1048576)∧(0≤x.Stack∧x.Stack≤256)∧0≤x.Heap∧x.Heap≤1024:=by
   unfold Z5e at hm;split at hm
   ·cases hm
   ·split at hm
    ·cases hm
    ·simpa using hm
  obtain⟨⟨f0,f1⟩,⟨s0,s1⟩,e0,e1⟩:=hb;have p3:(256:Int) ^ 3=16777216:=rfl;have p2:(256:Int) ^ 2=65536:=rfl;obtain⟨a1,a2⟩:=Z4c (w:=3) (by omega) f0 (by omega);obtain⟨b1,b2⟩:=Z4c (w:=2) (by omega) s0 (by omega);obtain⟨c1,c2⟩:=Z4c (w:=2) (by omega) e0 (by omega);obtain⟨r1,g1,q1⟩:=Z9C (w:=3) (by omega) (by omega) f0 (by omega);obtain⟨r2,g2,q2⟩:=Z9C (w:=2) (by omega) (by omega) s0 (by omega);obtain⟨r3,g3,q3⟩:=Z9C (w:=2) (by omega) (by omega) e0 (by omega);rw[show((3:Nat):Int)=3 from rfl]at g1;rw[show((2:Nat):Int)=2 from rfl]at g2 g3;have tail:∀o:List Int,o.length≤500→∃z,WE.j1 x o=some (z,0)∧z.length=o.length+7:=by
   intro o ho;unfold WE.j1;rw[g1];simp only[bS];rw[g2];simp only[bS];rw[g3];simp only[bS];rw[if_pos (by omega),if_pos (by simp;omega),if_pos (by simp;omega)];exact⟨_,rfl,by simp;omega⟩
  have hp:Z44 x (Z2L x)=(((Z2L x++(VG 3 x.Fuel).1)++(VG 2 x.Stack).1)++(VG 2 x.Heap).1,0):=by
   unfold Z44;rw[if_neg (by simp[a1]),if_neg (by simp[b1]),if_neg (by simp[c1])]
  rw[if_neg (show ¬(!true)=true by simp),if_neg (show ¬true=false by simp),hp];have hl:(Z2L x).length=x.Args.length+x.Zk.length+4:=by unfold Z2L;simp;omega
  rw[if_pos (by simp;omega),if_pos (by simp;omega),if_pos (by simp;omega),if_pos (by simp;omega)];have fin:∀o:List Int,o.length=(Z2L x).length→∃o',WE.j1 x o=some (o',0)∧o'.length=((((Z2L x++(VG 3 x.Fuel).1)++(VG 2 x.Stack).1)++(VG 2 x.Heap).1)).length∧o'.length≤1000:=by
   intro o ho;obtain⟨z,e,hz⟩:=tail o (by omega);exact⟨z,e,by simp[a2,b2,c2];omega,by omega⟩
  split
  ·rw[if_pos (by simp;omega)];exact fin _ (by rw[hl];simp;omega)
  ·rw[if_pos (by simp;omega)];exact fin _ (by rw[hl];simp;omega)
theorem ZfX{m:Zc}(hm:XK m)(S:Small m):TU.f m=some (Z4N m):=by
 have hG:=S.G;have hP:=S.P;have hM:=S.M;unfold TU.f Z4N Z7e Z3A;by_cases hc:m.ZA.length>4∨m.Methods.length>16∨m.Zo < -1∨m.Zo≥m.Methods.length
 ·rw[if_pos hc];have:Y1.f m=some ([],80):=Zf (by
   dsimp only[Y1.F];rw[if_pos (by simp;omega)])
  rw[this];rfl
 ·rw[if_neg hc];obtain⟨g,g1,g2,g3⟩:=Zbg (l:=m.ZA) (by omega);obtain⟨p,p1,p2,p3⟩:=Zbg (l:=m.Pool) (by omega);by_cases e1:(WL m.ZA).2≠0
  ·rw[if_pos e1];have:Y1.f m=some ([],(WL m.ZA).2):=Zf (by
    dsimp only[Y1.F];rw[if_neg (by simp;omega),g1];simp only[bS];rw[if_pos e1])
   rw[this,if_pos e1];rfl
  ·rw[if_neg e1];by_cases e2:(WL m.Pool).2≠0
   ·rw[if_pos e2];have:Y1.f m=some ([],(WL m.Pool).2):=Zf (by
     dsimp only[Y1.F];rw[if_neg (by simp;omega),g1];simp only[bS];rw[if_neg e1,p1];simp only[bS];rw[if_pos e2])
    rw[this,if_pos e2];rfl
   ·rw[if_neg e2];have go:∀(c pre:List Zb) (o o':List Int),m.Methods=pre++c→o.length=o'.length→o.length≤2001+2000*pre.length →
        ∃r,Zw (Y1.F m) (.l1 o (pre.length:Int))=some (r,if(TB m c o').2≠0 then(TB m c o').2 else if((TB m c o').1.length:Int)>2000 then 3 else 0):=by
     intro c;induction c with
     |nil=>
      intro pre o o' he hoo ho;have hpl:pre.length=m.Methods.length:=by rw[he];simp
      have fin:∀z:Int,∃r,(Y1.j1 m (o ++ [z]))=some (.inr (r,if(TB m [] o').2≠0 then(TB m [] o').2 else if((TB m [] o').1.length:Int)>2000 then 3 else 0)):=by
       intro z;unfold Y1.j1 TB;rw[if_neg (show ¬(o' ++ [ZfU m],(0:Int)).2≠0 by simp)];by_cases hh:((o ++ [z]).length:Int)>2000
       ·rw[if_pos hh,if_pos (by simp at hh ⊢;omega)];exact⟨_,rfl⟩
       ·rw[if_neg hh,if_neg (by simp at hh ⊢;omega)];exact⟨_,rfl⟩
      have body:∃z,Y1.F m (.l1 o (pre.length:Int))=Y1.j1 m (o ++ [z]):=by
       dsimp only[Y1.F];rw[if_neg (by omega)];split
       ·rw[if_pos (by simp;omega)];exact⟨_,rfl⟩
       ·rw[if_pos (by simp;omega)];exact⟨_,rfl⟩
      obtain⟨z,hz⟩:=body;obtain⟨r,hr⟩:=fin z;exact⟨r,Zf (by rw[hz,hr])⟩
     |cons x c ih=>
      intro pre o o' he hoo ho;have hpl:pre.length<m.Methods.length:=by rw[he];simp
      have hv:m.Methods[pre.length]=x:=by simp[he]
      have hx:x∈m.Methods:=by rw[he];simp
      have hs:=S.x x hx;have hwx:∀i∈x.Code,Y5 i:=((hm.2.2.1.2 x hx).2.2.2.2.2.2.2).2;obtain⟨h,h1,h2,h3⟩:=ZhZ (x:=x) (by omega) (by omega);obtain⟨d,d1,d2,d3⟩:=ZhY (l:=x.Code) (by omega) hwx;by_cases f1:(Uy x).2≠0
      ·refine⟨[],Zf ?_⟩;have hw:TB m (x::c) o'=([],(Uy x).2):=by rw[TB,if_pos f1]
       dsimp only[Y1.F];rw[if_pos (by omega),Zy hpl,hv];simp only[bS];rw[h1];simp only[bS];rw[if_pos f1,hw,if_pos f1]
      ·by_cases f2:(UL x.Code).2≠0
       ·refine⟨[],Zf ?_⟩;have hw:TB m (x::c) o'=([],(UL x.Code).2):=by rw[TB,if_neg f1,if_pos f2]
        dsimp only[Y1.F];rw[if_pos (by omega),Zy hpl,hv];simp only[bS];rw[h1];simp only[bS];rw[if_neg f1,d1];simp only[bS];rw[if_pos f2,hw,if_pos f2]
       ·have hw:TB m (x::c) o'=TB m c ((o'++(Uy x).1)++(UL x.Code).1):=by rw[TB,if_neg f1,if_neg f2]
        obtain⟨r,e⟩:=ih (pre ++ [x]) ((o++h)++d) ((o'++(Uy x).1)++(UL x.Code).1) (by rw[he];simp) (by simp;omega) (by simp;omega);rw[hw];refine⟨r,(Ze ?_).trans e⟩;dsimp only[Y1.F];rw[if_pos (by omega),Zy hpl,hv];simp only[bS];rw[h1];simp only[bS];rw[if_neg f1,d1];simp only[bS];rw[if_neg f2,if_pos (by omega),if_pos (by simp;omega),Zu pre.length (by omega)];simp
    obtain⟨r,e⟩:=go m.Methods [] ((g++p) ++ [IntKind.u8.wrap (m.Methods.length:Int)]) (((WL m.ZA).1++(WL m.Pool).1) ++ [IntKind.u8.wrap (m.Methods.length:Int)]) rfl (by simp;omega) (by simp;omega);have:Y1.f m=some (r,_):=(Ze (by
     dsimp only[Y1.F];rw[if_neg (by simp;omega),g1];simp only[bS];rw[if_neg e1,p1];simp only[bS];rw[if_neg e2,if_pos (by omega),if_pos (by simp;omega)];rfl)).trans e
    rw[this];simp only[bS];congr 1;split
    ·rfl
    ·split<;>rfl
end YA
namespace YA
open Zz Y8 Xd XG
theorem ZsY{x:Zb}(h1:x.Args.length≤100)(h2:x.Zk.length≤100):X9.f x=some (Z6d x):=by
 have go:∀(c pre:List Int),x.Args=pre++c→(∀a∈pre,a≠3)→Zw (X9.F x) (.l1 (pre.length:Int))=some (Z6d x):=by
  intro c;induction c with
  |nil=>
   intro pre he hp;refine Zf ?_;dsimp only[X9.F];rw[if_neg (by rw[he];simp),ZhW h1 h2];have:(x.Args.any fun a=>decide (3=a))=false:=by
    rw[he,List.append_nil,List.any_eq_false];intro a ha;have:=hp a ha;simp;omega
   unfold Z6d;rw[this];simp
  |cons v c ih=>
   intro pre he hp;have hpl:pre.length<x.Args.length:=by rw[he];simp
   have hv:x.Args[pre.length]=v:=by simp[he]
   by_cases h3:v=3
   ·refine Zf ?_;dsimp only[X9.F];rw[if_pos (by omega),Zy hpl,hv];simp only[bS];have:(x.Args.any fun a=>decide (3=a))=true:=List.any_eq_true.2 ⟨v,by rw[he];simp,by simp[h3]⟩;rw[if_pos h3];unfold Z6d;rw[this];simp
   ·rw[←ih (pre ++ [v]) (by rw[he];simp) (fun a ha=>by
     rcases List.mem_append.1 ha with h|h
     ·exact hp a h
     ·rw[List.mem_singleton]at h;subst h;exact h3)]
    refine Ze ?_;dsimp only[X9.F];rw[if_pos (by omega),Zy hpl,hv];simp only[bS];rw[if_neg h3,Zu pre.length (by omega)];simp
 unfold X9.f;rw[Ze (t :=.l1 ((0:Nat):Int)) rfl];exact go _ [] rfl (by simp)
theorem Zjw{m:Zc}{k:Nat}(hk:k<m.Methods.length)(hc:m.Methods[k].Code.length≤300):Xr.f m k=some (Z0C m.Methods[k],0):=by
 have hx:=Zy hk;generalize m.Methods[k]=x at hx hc
 have go:∀(c pre:List Z7),x.Code=pre++c→Zw (Xr.F m k) (.l1 (pre.length:Int))=some (c.any (fun i=>decide (i.Op=5)),0):=by
  intro c;induction c with
  |nil=>
   intro pre he;refine Zf ?_;dsimp only[Xr.F];rw[hx];simp only[bS];rw[if_neg (by rw[he];simp)];rfl
  |cons i c ih=>
   intro pre he;have hpl:pre.length<x.Code.length:=by rw[he];simp
   have hi:x.Code[pre.length]=i:=by simp[he]
   by_cases h5:i.Op=5
   ·refine Zf ?_;dsimp only[Xr.F];rw[hx];simp only[bS];rw[if_pos (by omega),Zy hpl,hi];simp only[bS];rw[if_pos h5];simp[h5]
   ·rw[List.any_cons,show decide (i.Op=5)=false by simpa using h5,Bool.false_or,←ih (pre ++ [i]) (by rw[he];simp)];refine Ze ?_;dsimp only[Xr.F];rw[hx];simp only[bS];rw[if_pos (by omega),Zy hpl,hi];simp only[bS];rw[if_neg h5,Zu pre.length (by omega)];simp
 unfold Xr.f Z0C;rw[Ze (t :=.l1 ((0:Nat):Int)) (by
  dsimp only[Xr.F];rw[if_neg (by simp;omega)];rfl)]
 exact go _ [] rfl
theorem Zln{m:Zc}(S:Small m):ZK.f m=some (Z2M m):=by
 have hM:=S.M;have wh:∀k (hk:k<m.Methods.length),ZF.f m k=some (Z0L m.Methods.length m.Methods[k].Code):=fun k hk=>Z8B hk S.M (S.x _ (List.getElem_mem hk)).2.2;have first:∀(c pre:List Zb),m.Methods=pre++c→Zw (ZK.F m) (.l1 (pre.length:Int))=if(c.any fun x=>(nm x.Code).any (VR m.Methods.length))=true then some 2 else Zw (ZK.F m) (.l2 ((0:Nat):Int)):=by
  intro c;induction c with
  |nil=>
   intro pre he;rw[if_neg (by simp)];refine Ze ?_;dsimp only[ZK.F];rw[if_neg (by rw[he];simp)];rfl
  |cons x c ih=>
   intro pre he;have hpl:pre.length<m.Methods.length:=by rw[he];simp
   have hv:m.Methods[pre.length]=x:=by simp[he]
   have hw:=wh pre.length hpl;rw[hv]at hw;unfold Z0L at hw;by_cases hb:(nm x.Code).any (VR m.Methods.length)=true
   ·rw[if_pos hb]at hw;rw[if_pos (by rw[List.any_cons,hb];rfl)];refine Zf ?_;dsimp only[ZK.F];rw[if_pos (by omega),hw];simp only[bS];rw[if_pos (by simp)]
   ·rw[if_neg hb]at hw;have hb':(nm x.Code).any (VR m.Methods.length)=false:=by simpa using hb
    rw[List.any_cons,hb',Bool.false_or,←ih (pre ++ [x]) (by rw[he];simp)];refine Ze ?_;dsimp only[ZK.F];rw[if_pos (by omega),hw];simp only[bS];rw[if_neg (by simp),Zu pre.length (by omega)];simp
 unfold ZK.f Z2M;rw[Ze (t :=.l1 ((0:Nat):Int)) rfl];refine(first m.Methods [] rfl).trans ?_;by_cases hb:TA m=true
 ·rw[if_pos hb];unfold TA at hb;rw[if_pos hb]
 rw[if_neg hb];have hb':=hb;unfold TA at hb';rw[if_neg hb'];have good:∀k (hk:k<m.Methods.length),ZF.f m k=some ((YW m).getD k [],0):=by
  intro k hk;rw[wh k hk,Z1c hk];unfold Z0L;rw[if_neg];intro h;exact hb' (List.any_eq_true.2 ⟨_,List.getElem_mem hk,h⟩)
 have inner:∀(k:Nat) (L:List Int),(∀a∈L,0≤a∧a<m.Methods.length)→L.length≤100→k<m.Methods.length→∀(c pre:List Int) (b:Bool),L=pre++c →
     Zw (ZK.F m) (.l3 (k:Int) (L,0) b (pre.length:Int))=if(b||Z3l m c)=true then some 130 else Zw (ZK.F m) (.l2 ((k+1:Nat):Int)):=by
  intro k L hL hlen hk c;induction c with
  |nil=>
   intro pre b he;cases b with
   |true=>
    rw[if_pos (by simp)];refine Zf ?_;dsimp only[ZK.F];rw[if_neg (by rw[he];simp),if_pos rfl]
   |false=>
    rw[if_neg (by simp[Z3l])];refine Ze ?_;dsimp only[ZK.F];rw[if_neg (by rw[he];simp),if_neg (by simp)];unfold ZK.j1;rw[Zu k (by omega)]
  |cons a c ih=>
   intro pre b he;have hpl:pre.length<L.length:=by rw[he];simp
   have ha:L[pre.length]=a:=by simp[he]
   have hal:=hL a (by rw[he];simp);have step:Zw (ZK.F m) (.l3 (k:Int) (L,0) b (pre.length:Int))=Zw (ZK.F m) (.l3 (k:Int) (L,0) (b || !(Z1x m a.toNat).Reads) ((pre ++ [a]).length:Int)):=by
    refine Ze ?_;dsimp only[ZK.F];rw[if_pos (by omega)];unfold ZK.j2;cases b with
    |true=>rw[if_pos rfl,Zu pre.length (by omega)];simp
    |false=>
     rw[if_neg (by simp),Zy hpl,ha];simp only[bS];rw[Uu (xs:=m.Methods) hal.1 (by omega)];simp only[bS];rw[Z1d (by omega),Zu pre.length (by omega)];simp
   rw[step,ih (pre ++ [a]) _ (by rw[he];simp)];unfold Z3l;rw[List.any_cons,Bool.or_assoc]
 have outer:∀(j k:Nat),k+j=m.Methods.length→Zw (ZK.F m) (.l2 (k:Int))=some (if((List.range' k j).any (ZaG m))=true then 130 else 0):=by
  intro j;induction j with
  |zero=>
   intro k hk;refine Zf ?_;dsimp only[ZK.F];rw[if_neg (by omega)];simp
  |succ j ih=>
   intro k hk;have hkl:k<m.Methods.length:=by omega
   have hs:=S.x _ (List.getElem_mem hkl);have hwl:=good k hkl;have hin:∀a∈(YW m).getD k [],0≤a∧a<m.Methods.length:=by
    intro a ha;rw[Z1c hkl]at ha;unfold KL at ha;obtain⟨i,hi,rfl⟩:=List.mem_map.1 (List.mem_filter.1 ha).1;have:=List.mem_range.1 hi;omega
   have hlen:((YW m).getD k []).length≤100:=by
    rw[Z1c hkl];have:=Z53 m.Methods.length m.Methods[k].Code;omega
   rw[List.range'_succ,List.any_cons];have hbr:ZaG m k=(m.Methods[k].Reads&&(Z0C m.Methods[k]||Z3l m ((YW m).getD k []))):=by unfold ZaG;rw[Z1d hkl]
   rw[hbr];cases hr:m.Methods[k].Reads with
   |false=>
    rw[Bool.false_and,Bool.false_or,←ih (k+1) (by omega)];refine Ze ?_;dsimp only[ZK.F];rw[if_pos (by omega),Zy hkl];simp only[bS];rw[hr,if_pos (by simp)];unfold ZK.j1;rw[Zu k (by omega)]
   |true=>
    rw[Ze (t :=.l3 (k:Int) ((YW m).getD k [],0) (Z0C m.Methods[k]) ((([]:List Int).length:Nat):Int)) (by
     dsimp only[ZK.F];rw[if_pos (by omega),Zy hkl];simp only[bS];rw[hr,if_neg (by simp),Zjw hkl hs.2.2];simp only[bS];rw[hwl];rfl),inner k _ hin hlen hkl _ [] _ rfl,ih (k+1) (by omega)]
    rw[Bool.true_and];show(if(Z0C m.Methods[k]||Z3l m ((YW m).getD k []))=true then some 130 else some _)=_;generalize (Z0C m.Methods[k]||Z3l m ((YW m).getD k []))=q;cases q with
    |true=>rfl
    |false=>rw[Bool.false_or];rfl
 rw[outer m.Methods.length 0 (by omega),←List.range_eq_range']
end YA
namespace YA
open Zz Y8 Xd XG
theorem ZoQ{m:Zc}{k:Nat}(hm:XK m)(S:Small m)(hk:k<m.Methods.length):∃R,ZB.f m k=some (R,(VO m k).2):=by
 obtain⟨rows,e,h1,h2,-⟩:=Z7g hm S hk;have h3:=(Zbe hm S hk).1;rw[h1]at h3;have:=congrArg Prod.snd (sI h3);exact⟨_,by rw[h2,←this]⟩
theorem Zlo{m:Zc}(hm:XK m)(S:Small m):Yv.f m=some (Kc m):=by
 obtain⟨L,e,h1,h2,-⟩:=ZfW hm S;rw[Z6a hm S]at h1;rw[h2,←h1]
theorem Zjx{m:Zc}(S:Small m)(h:m.Zo<m.Methods.length):(if m.Zo≥0 then((elt m.Methods m.Zo).bind fun Vh=>(X9.f Vh).bind fun t19=>some (!t19))else(some false))=some (decide (Z1V m≠0)):=by
 unfold Z1V;by_cases h0:m.Zo≥0
 ·have hk:m.Zo.toNat<m.Methods.length:=by omega
  have hs:=S.x _ (List.getElem_mem hk);rw[if_pos h0,Uu (xs:=m.Methods) (by omega) hk];simp only[bS];rw[ZsY hs.1 hs.2.1];simp only[bS];rw[Z1d hk];cases Z6d m.Methods[m.Zo.toNat]<;>simp[h0]
 ·rw[if_neg h0];simp[h0]
noncomputable def ZfY(m:Zc):List ZM×Int:=
 if Z1e m≠0 then([],Z1e m)else if(Kc m).2≠0 then([],(Kc m).2)else if Z2M m≠0 then([],Z2M m)else((Kc m).1,0)
theorem Zjy{m:Zc}(hm:XK m)(S:Small m):X6.f m=some (Z3a m):=by
 have hM:=S.M;have hE:=(Zds S).2;have ro:=Zbb (m:=m) ⟨S.M,fun x hx=>(S.x x hx).2.2⟩;have scan:∀(j k:Nat),k+j=m.Methods.length→Zw (X6.F m) (.l1 (k:Int))=some (match (List.range' k j).find? (fun k=>decide ((VO m k).2≠0))with
     |some k=>([],(VO m k).2)
     |none=>ZfY m):=by
  intro j;induction j with
  |zero=>
   intro k hk;refine Zf ?_;dsimp only[X6.F];rw[if_neg (by omega),ro];simp only[bS];have hc:(if TA m=true then(([]:List Int),(2:Int))else JQ (YW m) m.Methods.length []).2=Z1e m:=by unfold Z1e;split<;>rfl
   rw[hc];simp only[List.range'_zero,List.find?_nil];unfold ZfY;by_cases h1:Z1e m≠0
   ·rw[if_pos h1,if_pos h1]
   rw[if_neg h1,if_neg h1,Zlo hm S];simp only[bS];by_cases h2:(Kc m).2≠0
   ·rw[if_pos h2,if_pos h2]
   rw[if_neg h2,if_neg h2,Zln S];simp only[bS];by_cases h3:Z2M m≠0
   ·rw[if_pos h3,if_pos h3]
   ·rw[if_neg h3,if_neg h3]
  |succ j ih=>
   intro k hk;obtain⟨R,hr⟩:=ZoQ hm S (show k<m.Methods.length by omega);rw[List.range'_succ,List.find?_cons];by_cases he:(VO m k).2=0
   ·rw[show decide ((VO m k).2≠0)=false by simpa using he];dsimp only;rw[←ih (k+1) (by omega)];refine Ze ?_;dsimp only[X6.F];rw[if_pos (by omega),hr];simp only[bS];rw[if_neg (by simpa using he),Zu k (by omega)]
   ·rw[show decide ((VO m k).2≠0)=true by simpa using he];refine Zf ?_;dsimp only[X6.F];rw[if_pos (by omega),hr];simp only[bS];rw[if_pos he]
 unfold X6.f Z3a Z2g;by_cases h1:Z4N m≠0
 ·rw[if_pos h1];rw[if_pos h1];refine Zf ?_;dsimp only[X6.F];rw[ZfX hm S,bS,if_pos h1]
 rw[if_neg h1];have ZoR:=Zjx S (hE (Classical.not_not.1 h1)).2;by_cases h2:Z1V m≠0
 ·rw[if_pos h2];rw[if_pos h2];have h70:Z1V m=70:=by revert h2;unfold Z1V;split<;>simp
  refine Zf ?_;dsimp only[X6.F];rw[ZfX hm S,bS,if_neg h1,ZoR];simp only[bS];rw[if_pos (by simpa using h2),h70]
 rw[if_neg h2,Ze (t :=.l1 ((0:Nat):Int)) (by
  dsimp only[X6.F];rw[ZfX hm S,bS,if_neg h1,ZoR];simp only[bS];rw[if_neg (by simpa using h2)];rfl),scan m.Methods.length 0 (by omega),←List.range_eq_range']
 congr 1;unfold Z7f;cases hf:(List.range m.Methods.length).find? (fun k=>decide ((VO m k).2≠0))with
 |some k=>
  have hp:(VO m k).2≠0:=by simpa using List.find?_some hf
  dsimp only;rw[if_pos hp,if_pos hp]
 |none=>
  dsimp only;rw[if_neg (show ¬(0:Int)≠0 by simp)];unfold ZfY;by_cases h4:Z1e m≠0
  ·rw[if_pos h4,if_pos h4,if_pos h4]
  rw[if_neg h4,if_neg h4];by_cases h5:(Kc m).2≠0
  ·rw[if_pos h5,if_pos h5,if_pos h5]
  rw[if_neg h5,if_neg h5];by_cases h6:Z2M m≠0
  ·rw[if_pos h6,if_pos h6,if_pos h6]
  ·rw[if_neg h6,if_neg h6,if_neg (by simp)];exact Prod.ext rfl (Classical.not_not.1 h5).symm
theorem ZfZ{m:Zc}(h:¬(Z2g m).2≠0):(Kc m).2=0:=by
 revert h;unfold Z2g;split<;>rename_i h1
 ·intro h;exact absurd h1 h
 ·split<;>rename_i h2
  ·intro h;exact absurd h2 h
  ·split<;>rename_i h3
   ·intro h;exact absurd h3 h
   ·split<;>rename_i h4
    ·intro h;exact absurd h4 h
    ·split<;>rename_i h5
     ·intro h;exact absurd h5 h
     ·intro _;exact Classical.not_not.1 h5
theorem Zg0{m:Zc}(S:Small m):(Z3a m).1.length≤40:=by
 unfold Z3a;split
 ·simp
 ·rename_i h
  rw[ZhQ (ZfZ h)];exact S.M
end YA
namespace YA
open Zz Y8 Xd XG
def num:List Int→Int
 | []=>0
 |x::l=>x+256*num l
def le:Nat→Int→List Int
 | 0,_=>[]
 |w+1,n=>n % 256::le w (n / 256)
def Byt(l:List Int):Prop:=∀x∈l,0≤x∧x<256
theorem pow_pos(w:Nat):(1:Int)≤256 ^ w:=by
 induction w with
 |zero=>simp
 |succ w ih=>rw[Int.pow_succ];omega
theorem Z1f:∀(l:List Int),Byt l→0≤num l∧num l<256 ^ l.length
 | [],_=>by simp[num]
 |x::l,h=>by
  have a:=Z1f l fun y hy=>h y (List.mem_cons_of_mem _ hy);have b:=h x (List.mem_cons_self ..);rw[num,List.length_cons,Int.pow_succ,Int.mul_comm (256 ^ l.length)];omega
theorem ZeB:∀(a b:List Int),num (a++b)=num a+256 ^ a.length*num b
 | [],b=>by simp[num]
 |x::a,b=>by
  rw[List.cons_append,num,num,ZeB a b,List.length_cons,Int.pow_succ,Int.mul_comm (256 ^ a.length) 256,Int.mul_assoc];omega
theorem ZaI(x:Int):IntKind.u8.wrap x=x % 256:=by simp[IntKind.wrap,IntKind.bits,IntKind.signed]
end YA
namespace YA
open Zz Y8 Xd XG
theorem Zjz{k:IntKind}(h64:k.bits=64)(x:Int):k.wrap x % 18446744073709551616=x % 18446744073709551616:=by
 unfold IntKind.wrap;rw[h64,show(2:Int) ^ 64=18446744073709551616 from rfl];dsimp only;split
 ·omega
 ·omega
theorem wrap_small{k:IntKind}(h64:k.bits=64){x:Int}(h0:0≤x)(h1:x<9223372036854775808):k.wrap x=x:=by
 unfold IntKind.wrap;rw[h64,show(2:Int) ^ 64=18446744073709551616 from rfl,show(2:Int) ^ (64-1)=9223372036854775808 from rfl];dsimp only;rw[Int.emod_eq_of_lt h0 (by omega),if_neg (fun h=>by rw[Bool.and_eq_true,decide_eq_true_eq]at h;omega)]
theorem ZoS{k:IntKind}(h64:k.bits=64){A y:Int}{i:Nat}(hi:i<8)(A0:0≤A)(A1:A<256 ^ i)(y0:0≤y)(y1:y<256):orI k (k.wrap A) (Z5H k (k.wrap y) (8*(i:Int)))=k.wrap (A+256 ^ i*y):=by
 have hof:∀x:Int,BitVec.ofInt 64 (k.wrap x)=BitVec.ofInt 64 x:=fun x=>by
  apply BitVec.eq_of_toNat_eq;have:=Zjz h64 x;rw[BitVec.toNat_ofInt,BitVec.toNat_ofInt,show((2 ^ 64:Nat):Int)=18446744073709551616 from rfl,this]
 have hp:(256:Int) ^ i=((2 ^ (8*i):Nat):Int):=by
  rw[Nat.pow_mul];exact(Int.natCast_pow 256 i).symm
 have hle:2 ^ (8*i)≤72057594037927936:=Nat.le_trans (Nat.pow_le_pow_right (n:=2) (by omega) (show 8*i≤56 by omega)) (Nat.le_refl _);obtain⟨An,rfl⟩:∃n:Nat,A=(n:Int):=⟨A.toNat,by omega⟩
 obtain⟨yn,rfl⟩:∃n:Nat,y=(n:Int):=⟨y.toNat,by omega⟩
 rw[hp]at A1 ⊢;generalize hq:2 ^ (8*i)=q at A1 hle
 have hA:An<q:=by omega
 have hyq:yn*q≤255*q:=Nat.mul_le_mul_right _ (by omega);have hmin:min (8*(i:Int)).toNat k.bits=8*i:=by rw[h64];omega
 unfold orI Z5H;rw[hmin,h64,hof,hof,wrap_small h64 (x:=(yn:Int)) (by omega) (by omega)];congr 1;have e1:(yn:Int)*2 ^ (8*i)=((yn*q:Nat):Int):=by rw[←hq,Int.natCast_mul,Int.natCast_pow];rfl
 rw[e1,BitVec.ofInt_natCast,BitVec.ofInt_natCast,BitVec.toNat_or,BitVec.toNat_ofNat,BitVec.toNat_ofNat,show 2 ^ 64=18446744073709551616 from rfl,Nat.mod_eq_of_lt (by omega),Nat.mod_eq_of_lt (by omega)];have:=Nat.two_pow_add_eq_or_of_lt (i:=8*i) (b:=An) (by rw[hq];exact hA) yn;rw[hq,Nat.mul_comm]at this;rw[Nat.or_comm,←this,Int.natCast_add,Int.natCast_mul,Int.mul_comm (q:Int),Int.add_comm]
theorem ZjA{l:List Int}{k:Nat}(h:k<l.length):num (l.take (k+1))=num (l.take k)+256 ^ k*l[k]:=by
 rw[List.take_add_one,List.getElem?_eq_getElem h,Option.toList_some,ZeB,List.length_take,Nat.min_eq_left (by omega)];simp[num]
theorem J3{l:List Int}(h:Byt l)(k:Nat):Byt (l.take k):=fun x hx=>h x (List.mem_of_mem_take hx)
theorem Zi0{S:Type}{F:S→Option (S⊕Int)}{k:IntKind}(h64:k.bits=64){l:List Int}(hl:l.length≤8)(hb:Byt l)(s:Int→Nat→S)
    (hs:∀x i (h:i<l.length),F (s x i)=some (.inl (s (orI k x (Z5H k (k.wrap l[i]) (8*(i:Int)))) (i+1)))) (he:∀x,F (s x l.length)=some (.inr x)):Zw F (s 0 0)=some (k.wrap (num l)):=by
 have e0:(0:Int)=k.wrap (num (l.take 0)):=by rw[List.take_zero,num,wrap_small h64 (by omega) (by omega)]
 rw[e0];refine(TF (F:=F) (n:=l.length) (fun i=>s (k.wrap (num (l.take i))) i) (fun i hi=>?_)).trans (Zf ?_)
 ·have b1:=Z1f _ (J3 hb i);rw[List.length_take,Nat.min_eq_left (by omega)]at b1;have b2:=hb _ (List.getElem_mem hi);rw[hs _ i hi,ZoS h64 (by omega) b1.1 b1.2 b2.1 b2.2,ZjA hi]
 ·rw[he,List.take_length]
theorem Zi1{l:List Int}(hl:l.length≤8)(hb:Byt l):XY.f l=some (IntKind.u64.wrap (num l)):=by
 unfold XY.f;rw[Ze (t :=.l1 0 ((0:Nat):Int)) rfl];refine Zi0 (k :=.u64) rfl hl hb (fun x i=>XY.S.l1 x (i:Int)) (fun x i h=>?_) (fun x=>?_)
 ·dsimp only[XY.F];have w8:IntKind.i64.wrap (8*(i:Int))=8*(i:Int):=ZW (by omega) (by omega);rw[if_pos (by omega),Zy h];simp only[bS];rw[w8,if_pos (by omega),Zu i (by omega)]
 ·dsimp only[XY.F];rw[if_neg (by omega)]
theorem ZoT{l:List Int}(hl:l.length≤8)(hb:Byt l):Wp.f l=some (IntKind.i64.wrap (num l)):=by
 unfold Wp.f;rw[Ze (t :=.l1 0 ((0:Nat):Int)) rfl];refine Zi0 (k :=.i64) rfl hl hb (fun x i=>Wp.S.l1 x (i:Int)) (fun x i h=>?_) (fun x=>?_)
 ·dsimp only[Wp.F];have w8:IntKind.i64.wrap (8*(i:Int))=8*(i:Int):=ZW (by omega) (by omega);rw[if_pos (by omega),Zy h];simp only[bS];rw[w8,if_pos (by omega),Zu i (by omega)]
 ·dsimp only[Wp.F];rw[if_neg (by omega)]
def pN(w:Nat)(B:List Int):Option (Int×List Int):=if B.length<w then none else some (num (B.take w),B.drop w)
def pos(b B:List Int):Int:=(b.length:Int)-(B.length:Int)
structure On(b B:List Int):Prop where
 sf:B <:+ b
 bt:Byt b
 ln:b.length≤3000
theorem On.bb{b B:List Int}(h:On b B):Byt B:=fun x hx=>h.bt x (h.sf.mem hx)
theorem On.len{b B:List Int}(h:On b B):B.length≤b.length:=h.sf.length_le
theorem On.UC{b B:List Int}(h:On b B)(w:Nat):On b (B.drop w):=⟨(List.drop_suffix w B).trans h.sf,h.bt,h.ln⟩
theorem On.eq{b B:List Int}(h:On b B):b.drop (b.length-B.length)=B:=by
 obtain⟨t,rfl⟩:=h.sf;simp
theorem Zkl{b B:List Int}(h:On b B){w:Nat}(hw:w≤8):Jf.f b (pos b B) w=some (if B.length<w then([],10)else(B.take w,0)):=by
 have hl:=h.len;have h3:=h.ln;unfold Jf.f pos;rw[if_neg (by simp;omega),ZW (x:=(b.length:Int)-_) (by omega) (by omega)];by_cases hc:B.length<w
 ·rw[if_pos (by omega),if_pos hc]
 ·rw[if_neg (by omega),if_neg hc,ZW (by omega) (by omega),if_pos (by omega)];have e1:((b.length:Int)-(B.length:Int)+(w:Int)).toNat=b.length-B.length+w:=by omega
  have e2:((b.length:Int)-(B.length:Int)).toNat=b.length-B.length:=by omega
  rw[e1,e2,List.drop_take,Nat.add_sub_cancel_left,h.eq]
theorem Z3m{b B:List Int}(h:On b B){w:Nat}(h1:1≤w)(hw:w≤7):Xc.f b (pos b B) w=some (match pN w B with
    |some (n,B')=>(n,pos b B',0)
    |none=>(0,0,10)):=by
 have hl:=h.len;have h3:=h.ln;unfold Xc.f pN;rw[if_neg (by simp;omega),Zkl h (by omega)];simp only[bS];by_cases hc:B.length<w
 ·rw[if_pos hc,if_pos hc];rw[Zi1 (by simp) (fun x hx=>by cases hx)];simp only[bS];rw[if_neg (by decide)];rfl
 ·rw[if_neg hc,if_neg hc];have hbt:=J3 h.bb w;have hlt:(B.take w).length=w:=by rw[List.length_take];omega
  have hb:=Z1f _ hbt;rw[hlt]at hb;have hp:(256:Int) ^ w≤72057594037927936:=by
   have:w=1∨w=2∨w=3∨w=4∨w=5∨w=6∨w=7:=by omega
   rcases this with rfl|rfl|rfl|rfl|rfl|rfl|rfl<;>decide
  rw[Zi1 (by omega) hbt,wrap_small rfl hb.1 (by omega)];simp only[bS];rw[if_neg (by omega)];unfold Xc.j1 pos;rw[if_neg (by simp),ZW (x:=num _) (by omega) (by omega),ZW (by omega) (by omega),List.length_drop];congr 3;omega
theorem ZoU{b B:List Int}(h:On b B)(hl:8≤B.length):Ki.f b (pos b B)=some (IntKind.i64.wrap (num (B.take 8)),pos b (B.drop 8),0):=by
 have hl2:=h.len;have h3:=h.ln;unfold Ki.f;have hc:=Zkl h (w:=8) (by omega);rw[if_neg (by omega)]at hc;rw[show Jf.f b (pos b B) 8=_ from hc];simp only[bS];rw[if_neg (by simp),ZoT (by rw[List.length_take];omega) (J3 h.bb 8)];simp only[bS];unfold pos;rw[ZW (x:=(b.length:Int)-_+8) (by omega) (by omega),List.length_drop];congr 3;omega
def Told{α:Type}(b:List Int)(o:Option (α×List Int))(r:α×Int×Int):Prop:=match o with
 |some (x,B')=>r=(x,pos b B',0)∧On b B'
 |none=>r.2.2≠0
end YA
namespace YA
open Zz Y8 Xd XG
theorem On.at{b B:List Int}(h:On b B){i:Nat}(hi:i<B.length):elt b (IntKind.i64.wrap (pos b B+(i:Int)))=some B[i]:=by
 have hl:=h.len;have h3:=h.ln;unfold pos;rw[ZW (by omega) (by omega),Uu (by omega) (by omega)];congr 1;have e:((b.length:Int)-(B.length:Int)+(i:Int)).toNat=b.length-B.length+i:=by omega
 have:=h.eq;simp only[e];have h2:(b.drop (b.length-B.length))[i]'(by rw[this];exact hi)=B[i]:=by simp only[this]
 rw[List.getElem_drop]at h2;exact h2
theorem horner{n x:Int}(h0:0≤n)(h1:n<36028797018963968)(x0:0≤x)(x1:x<256):IntKind.i64.wrap (IntKind.i64.wrap (256*n)+IntKind.i64.wrap x)=256*n+x:=by
 rw[ZW (x:=256*n) (by omega) (by omega),ZW (x:=x) (by omega) (by omega),ZW (by omega) (by omega)]
theorem Z7i{x:Int}(h:0≤x∧x<256):IntKind.u8.wrap (255-x)=255-x:=by
 simp only[IntKind.wrap,IntKind.bits,IntKind.signed]
 first|omega|(simp;omega)
theorem Zi2{x:Int}(h0:9223372036854775808≤x)(h1:x<18446744073709551616):IntKind.i64.wrap x=x-18446744073709551616:=by
 simp only[IntKind.wrap,IntKind.bits,IntKind.signed]
 first|omega|(split<;>omega)|(simp;omega)
theorem Zlp{n:Int}(h0:0≤n)(h1:n<9223372036854775808):IntKind.i64.wrap (IntKind.i64.wrap (0-n)-1) = -n-1:=by
 rw[ZW (x:=0-n) (by omega) (by omega),ZW (by omega) (by omega)];omega
theorem Z7J{b B:List Int}(h:On b B){w:Nat}(h1:1≤w)(hw:w≤7):ZN.f b (pos b B) w=some (match pN w B with
    |some (n,B')=>(n,pos b B',0)
    |none=>(0,0,10)):=by
 have hl:=h.len;have h3:=h.ln;unfold ZN.f pN;have hp:pos b B=(b.length:Int)-(B.length:Int):=rfl;have hd:IntKind.i64.wrap ((b.length:Int)-pos b B)=(B.length:Int):=by rw[hp,ZW (by omega) (by omega)];omega
 by_cases hc:B.length<w
 ·rw[if_pos hc];refine Zf ?_;dsimp only[ZN.F];rw[if_neg (by simp;omega),hd,if_pos (by omega)]
 ·rw[if_neg hc];have hbt:=J3 h.bb w;have hlt:(B.take w).length=w:=by rw[List.length_take];omega
  have go:∀i,i≤w→Zw (ZN.F b (pos b B) w) (.l1 (num ((B.take w).drop i)) ((i:Int)-1))=some (num (B.take w),pos b (B.drop w),0):=by
   intro i;induction i with
   |zero=>
    intro _;refine Zf ?_;dsimp only[ZN.F];rw[if_neg (by omega),hp,ZW (by omega) (by omega)];unfold pos;rw[List.length_drop,List.drop_zero];congr 4;omega
   |succ i ih=>
    intro hi;rw[←ih (by omega)];refine Ze ?_;have hil:i<(B.take w).length:=by omega
    have hd:(B.take w).drop i=(B.take w)[i]::(B.take w).drop (i+1):=List.drop_eq_getElem_cons hil;have hb:=Z1f _ (fun x hx=>hbt x (List.mem_of_mem_drop hx):Byt ((B.take w).drop (i+1)));rw[List.length_drop,hlt]at hb;have hpw:(256:Int) ^ (w-(i+1))≤281474976710656:=by
     have:w-(i+1)=0∨w-(i+1)=1∨w-(i+1)=2∨w-(i+1)=3∨w-(i+1)=4∨w-(i+1)=5∨w-(i+1)=6:=by omega
     rcases this with e|e|e|e|e|e|e<;>rw[e]<;>decide
    have hx:=hbt _ (List.getElem_mem hil);have hg:(B.take w)[i]=B[i]'(by omega):=List.getElem_take;dsimp only[ZN.F];rw[if_pos (by omega),show((i+1:Nat):Int)-1=(i:Int) by omega,h.at (by omega)];simp only[bS];rw[←hg,horner hb.1 (by omega) hx.1 hx.2,ZW (x:=(i:Int)-1) (by omega) (by omega),hd,num];congr 3;omega
  rw[Ze (t :=.l1 (num ((B.take w).drop w)) ((w:Int)-1)) (by
   dsimp only[ZN.F];rw[if_neg (by simp;omega),hd,if_neg (by omega),if_neg (by omega)];simp only[bS];rw[if_neg (by simp),ZW (by omega) (by omega),List.drop_of_length_le (by omega)];rfl)]
  exact go w (Nat.le_refl _)
theorem ZeC{y0 y1 y2 y3 y4 y5 y6 y7:Int}(b0:0≤y0∧y0<256)(b1:0≤y1∧y1<256)(b2:0≤y2∧y2<256)(b3:0≤y3∧y3<256)(b4:0≤y4∧y4<256)(b5:0≤y5∧y5<256)(b6:0≤y6∧y6<256)(b7:0≤y7∧y7<128) :
    IntKind.i64.wrap (IntKind.i64.wrap (256*(IntKind.i64.wrap (IntKind.i64.wrap (256*(IntKind.i64.wrap (IntKind.i64.wrap (256*(IntKind.i64.wrap (IntKind.i64.wrap (256*(IntKind.i64.wrap (IntKind.i64.wrap (256*(IntKind.i64.wrap (IntKind.i64.wrap (256*(IntKind.i64.wrap (IntKind.i64.wrap (256*(IntKind.i64.wrap (0+IntKind.i64.wrap y7)))+IntKind.i64.wrap y6)))+IntKind.i64.wrap y5)))+IntKind.i64.wrap y4)))+IntKind.i64.wrap y3)))+IntKind.i64.wrap y2)))+IntKind.i64.wrap y1)))+IntKind.i64.wrap y0)=y0+256*(y1+256*(y2+256*(y3+256*(y4+256*(y5+256*(y6+256*y7)))))):=by
 rw[ZW (x:=y7) (by omega) (by omega),ZW (x:=0+y7) (by omega) (by omega),horner (n:=0+y7) (x:=y6) (by omega) (by omega) b6.1 b6.2,horner (n:=256*(0+y7)+y6) (x:=y5) (by omega) (by omega) b5.1 b5.2,horner (n:=256*(256*(0+y7)+y6)+y5) (x:=y4) (by omega) (by omega) b4.1 b4.2,horner (n:=256*(256*(256*(0+y7)+y6)+y5)+y4) (x:=y3) (by omega) (by omega) b3.1 b3.2,horner (n:=256*(256*(256*(256*(0+y7)+y6)+y5)+y4)+y3) (x:=y2) (by omega) (by omega) b2.1 b2.2,horner (n:=256*(256*(256*(256*(256*(0+y7)+y6)+y5)+y4)+y3)+y2) (x:=y1) (by omega) (by omega) b1.1 b1.2,horner (n:=256*(256*(256*(256*(256*(256*(0+y7)+y6)+y5)+y4)+y3)+y2)+y1) (x:=y0) (by omega) (by omega) b0.1 b0.2];omega
theorem ZoV{b B:List Int}(h:On b B)(hl:8≤B.length):Zj.f b (pos b B)=some (IntKind.i64.wrap (num (B.take 8)),pos b (B.drop 8),0):=by
 have hl2:=h.len;have h3:=h.ln;have at_:=fun i (hi:i<B.length)=>h.at hi
 have hbb:=h.bb;have hp:pos b B=(b.length:Int)-(B.length:Int):=rfl;have hd:IntKind.i64.wrap ((b.length:Int)-pos b B)=(B.length:Int):=by rw[hp,ZW (by omega) (by omega)];omega
 have hpd:IntKind.i64.wrap (pos b B+8)=pos b (B.drop 8):=by rw[hp,ZW (by omega) (by omega)];unfold pos;rw[List.length_drop];omega
 unfold Zj.f;rw[if_neg (by simp;omega),hd,if_neg (by omega)];generalize pos b B=p at at_ hpd
 generalize pos b (B.drop 8)=q at hpd
 match B,hl with
 |x0::x1::x2::x3::x4::x5::x6::x7::B',_=>
  have bd:∀x ∈ [x0,x1,x2,x3,x4,x5,x6,x7],0≤x∧x<256:=fun x hx=>hbb x (by simp at hx ⊢;rcases hx with h|h|h|h|h|h|h|h<;>simp[h]);have b0:=bd x0 (by simp);have b1:=bd x1 (by simp);have b2:=bd x2 (by simp);have b3:=bd x3 (by simp);have b4:=bd x4 (by simp);have b5:=bd x5 (by simp);have b6:=bd x6 (by simp);have b7:=bd x7 (by simp);have a0:elt b (IntKind.i64.wrap (p+0))=some x0:=at_ 0 (by simp);have a1:elt b (IntKind.i64.wrap (p+1))=some x1:=at_ 1 (by simp);have a2:elt b (IntKind.i64.wrap (p+2))=some x2:=at_ 2 (by simp);have a3:elt b (IntKind.i64.wrap (p+3))=some x3:=at_ 3 (by simp);have a4:elt b (IntKind.i64.wrap (p+4))=some x4:=at_ 4 (by simp);have a5:elt b (IntKind.i64.wrap (p+5))=some x5:=at_ 5 (by simp);have a6:elt b (IntKind.i64.wrap (p+6))=some x6:=at_ 6 (by simp);have a7:elt b (IntKind.i64.wrap (p+7))=some x7:=at_ 7 (by simp);have hn:num ((x0::x1::x2::x3::x4::x5::x6::x7::B').take 8)=x0+256*(x1+256*(x2+256*(x3+256*(x4+256*(x5+256*(x6+256*(x7+256*0))))))):=rfl;rw[hn,a7];simp only[bS];by_cases h7:x7>127
  ·rw[if_pos h7];unfold Zj.j1;rw[a6];simp only[bS];rw[if_pos h7];unfold Zj.j2;rw[a5];simp only[bS];rw[if_pos h7];unfold Zj.j3;rw[a4];simp only[bS];rw[if_pos h7];unfold Zj.j4;rw[a3];simp only[bS];rw[if_pos h7];unfold Zj.j5;rw[a2];simp only[bS];rw[if_pos h7];unfold Zj.j6;rw[a1];simp only[bS];rw[if_pos h7];unfold Zj.j7;rw[a0];simp only[bS];rw[if_pos h7];unfold Zj.j8 Zj.j9;rw[if_pos h7,hpd];rw[Z7i b0,Z7i b1,Z7i b2,Z7i b3,Z7i b4,Z7i b5,Z7i b6,Z7i b7];refine congrArg some (Prod.ext ?_ rfl);dsimp only;rw[ZeC (y7:=255-x7) (by omega) (by omega) (by omega) (by omega) (by omega) (by omega) (by omega) (by omega)];rw[Zlp (by omega) (by omega),Zi2 (by omega) (by omega)];omega
  ·rw[if_neg h7];unfold Zj.j1;rw[a6];simp only[bS];rw[if_neg h7];unfold Zj.j2;rw[a5];simp only[bS];rw[if_neg h7];unfold Zj.j3;rw[a4];simp only[bS];rw[if_neg h7];unfold Zj.j4;rw[a3];simp only[bS];rw[if_neg h7];unfold Zj.j5;rw[a2];simp only[bS];rw[if_neg h7];unfold Zj.j6;rw[a1];simp only[bS];rw[if_neg h7];unfold Zj.j7;rw[a0];simp only[bS];rw[if_neg h7];unfold Zj.j8 Zj.j9;rw[if_neg h7,hpd];refine congrArg some (Prod.ext ?_ rfl);dsimp only;rw[ZeC (y7:=x7) b0 b1 b2 b3 b4 b5 b6 (by omega)];rw[ZW (by omega) (by omega)];omega
end YA
namespace YA
open Zz Y8 Xd XG
theorem Zlq{b B:List Int}(h:On b B)(hl:B.length<8):Zj.f b (pos b B)=some (0,0,10):=by
 have hl2:=h.len;have h3:=h.ln;have hp:pos b B=(b.length:Int)-(B.length:Int):=rfl;have hd:IntKind.i64.wrap ((b.length:Int)-pos b B)=(B.length:Int):=by rw[hp,ZW (by omega) (by omega)];omega
 unfold Zj.f;rw[if_neg (by simp;omega),hd,if_pos (by omega)]
theorem JU{w:Nat}{B:List Int}(h:¬B.length<w):pN w B=some (num (B.take w),B.drop w):=by unfold pN;rw[if_neg h]
theorem Zlr:Z3E=[0,8,6]:=rfl
def Left(b B:List Int)(p:Int):Prop:=∃B',On b B'∧p=pos b B'∧B'.length<B.length
theorem Z4d{b B:List Int}(h:On b B){k:Nat}(hk:k≤B.length):IntKind.i64.wrap (pos b B+(k:Int))=pos b (B.drop k):=by
 have hl:=h.len;have h3:=h.ln;unfold pos;rw[ZW (by omega) (by omega),List.length_drop];omega
theorem Z4O{B:List Int}(h:¬B.length<1):∃k B1,B=k::B1∧num (B.take 1)=k∧B.drop 1=B1:=by
 match B,h with
 |k::B1,_=>exact⟨k,B1,rfl,by simp[num],rfl⟩
theorem Z2h{x:Int}(h0 : -9223372036854775808≤x)(h1:x<9223372036854775808):(Lit.int .i64 x).wf=true:=by
 simp only[Lit.wf,IntKind.min,IntKind.max,IntKind.bits,IntKind.signed]
 first|(simp;omega)|simp[h0,h1]
theorem Z9D{x:Int}(h0:0≤x)(h1:x<256):(Lit.int .u8 x).wf=true:=by
 simp only[Lit.wf,IntKind.min,IntKind.max,IntKind.bits,IntKind.signed]
 first|(simp;omega)|simp[h0,h1]
theorem Zi3{k x y:Int}(k0:0≤k)(k1:k<256)(x0 : -9223372036854775808≤x)(x1:x<9223372036854775808)(y0 : -9223372036854775808≤y)(y1:y<9223372036854775808):KZ ⟨k,x,y⟩:=⟨Z9D k0 k1,Z2h x0 x1,Z2h y0 y1⟩
theorem ZjB{b B:List Int}(h:On b B):∃r,Z1o.f b (pos b B)=some r∧TH.f b (pos b B)=some r∧(r.2.2=0→Left b B r.2.1∧J2 r.1=true∧KZ r.1):=by
 have hl0:=h.len;have JN:=h.ln;have hp0:pos b B=(b.length:Int)-(B.length:Int):=rfl;unfold Z1o.f TH.f;rw[show Xc.f b (pos b B) 1=_ from Z3m h (w:=1) (by omega) (by omega)];simp only[bS];rw[if_neg (show ¬(decide (pos b B<0)||decide (pos b B>(b.length:Int)))=true by simp;omega)];by_cases h1:B.length<1
 ·have e:pN 1 B=none:=by unfold pN;rw[if_pos h1]
  rw[e,if_pos (show pos b B=(b.length:Int) by omega)];exact⟨_,rfl,rfl,by simp⟩
 rw[JU h1,if_neg (show ¬pos b B=(b.length:Int) by omega)];have hat:=h.at (i:=0) (by omega)
 rw[show pos b B+((0:Nat):Int)=pos b B by omega,ZW (by omega) (by omega)]at hat;rw[hat];dsimp only;rw[if_neg (show ¬((0:Int)≠0) by simp)];have o1:=h.UC 1;have hb0:=Z1f _ (J3 h.bb 1);have hpa:IntKind.i64.wrap (pos b B+1)=pos b (B.drop 1):=Z4d h (k:=1) (by omega);have hl1:(B.drop 1).length=B.length-1:=List.length_drop;obtain⟨k,B1,rfl,e1,e2⟩:=Z4O h1;rw[e1]at hb0;rw[e2]at o1 hpa hl1;rw[e1,e2,show(k::B1)[0]=k from rfl,hpa];simp only[bS];have ZAN:k<256:=by have:=(h.bb k (by simp)).2;exact this
 have hk0:0≤k:=(h.bb k (by simp)).1;have hl:=o1.len;have h3:=o1.ln;rw[Zlr];by_cases k3:k≥3
 ·rw[if_pos k3];simp only[bS];rw[if_pos trivial,if_neg (show ¬k=1 by omega),if_neg (show ¬k=2 by omega)];exact⟨_,rfl,rfl,by simp⟩
 rw[if_neg k3];have hk:k=0∨k=1∨k=2:=by omega
 rcases hk with rfl|rfl|rfl
 ·exact⟨_,rfl,rfl,by simp⟩
 ·rw[show elt [0,8,6] (1:Int)=some (8:Int) from rfl];simp only[bS];rw[if_neg (show ¬(decide ((8:Int)=0)=true) by simp)];have hw:IntKind.i64.wrap (pos b B1+8)=pos b B1+8:=by unfold pos;exact ZW (by omega) (by omega)
  rw[hw,if_pos trivial];by_cases h8:B1.length<8
  ·rw[if_pos (by unfold pos;omega),Zlq o1 h8];simp only[bS];rw[if_pos (by simp)];exact⟨_,rfl,rfl,by simp⟩
  ·rw[if_neg (by unfold pos;omega),if_pos (show IntKind.u8.wrap 1=1 from rfl),ZoU o1 (by omega),ZoV o1 (by omega)];simp only[bS];unfold JX.f;rw[if_neg (by simp)];have hpp:pos b B1+8=pos b (B1.drop 8):=by unfold pos;rw[List.length_drop];omega
   simp only[bS];rw[hpp];refine⟨_,rfl,rfl,fun _=>⟨⟨_,o1.UC 8,rfl,by simp;omega⟩,by simp[J2],?_⟩⟩;have hi:=Z0B (num (B1.take 8));exact Zi3 (by omega) (by omega) hi.1 hi.2 (by omega) (by omega)
 ·rw[show elt [0,8,6] (2:Int)=some (6:Int) from rfl];simp only[bS];rw[if_neg (show ¬(decide ((6:Int)=0)=true) by simp),if_neg (show ¬((2:Int)=1) by omega),if_pos trivial];have hw:IntKind.i64.wrap (pos b B1+6)=pos b B1+6:=by unfold pos;exact ZW (by omega) (by omega)
  have hd:IntKind.i64.wrap ((b.length:Int)-pos b (2::B1))=(B1.length:Int)+1:=by rw[hp0,ZW (by omega) (by omega)];simp;omega
  rw[hw,hd];by_cases h6:B1.length<6
  ·rw[if_pos (by unfold pos;omega),if_pos (by omega)];exact⟨_,rfl,rfl,by simp⟩
  ·rw[if_neg (by unfold pos;omega),if_neg (show ¬(IntKind.u8.wrap 2=1) by decide),if_neg (by omega)];have o2:=o1.UC 3;have hp4:IntKind.i64.wrap (pos b (2::B1)+4)=pos b (B1.drop 3):=Z4d h (k:=4) (by simp;omega);have hp7:IntKind.i64.wrap (pos b (2::B1)+7)=pos b (B1.drop 6):=Z4d h (k:=7) (by simp;omega);have hp6:pos b B1+6=pos b (B1.drop 6):=by unfold pos;rw[List.length_drop];omega
   rw[hp4,hp7,hp6];rw[show Xc.f b (pos b B1) 3=_ from Z3m o1 (w:=3) (by omega) (by omega),show ZN.f b (pos b B1) 3=_ from Z7J o1 (w:=3) (by omega) (by omega)];rw[JU (show ¬B1.length<3 by omega)];simp only[bS];rw[show Xc.f b (pos b (B1.drop 3)) 3=_ from Z3m o2 (w:=3) (by omega) (by omega),show ZN.f b (pos b (B1.drop 3)) 3=_ from Z7J o2 (w:=3) (by omega) (by omega)];rw[JU (show ¬(B1.drop 3).length<3 by rw[List.length_drop];omega)];simp only[bS];have n1:=Z1f _ (J3 o1.bb 3);have n2:=Z1f _ (J3 o2.bb 3);have l1:(B1.take 3).length=3:=by rw[List.length_take];omega
   have l2:((B1.drop 3).take 3).length=3:=by rw[List.length_take,List.length_drop];omega
   rw[l1]at n1;rw[l2]at n2;generalize num (B1.take 3)=x at n1
   generalize num ((B1.drop 3).take 3)=y at n2
   rw[ZW (x:=x-1048576) (by omega) (by omega),ZW (x:=y-1048576) (by omega) (by omega)];unfold Jg.f Z28.f;simp only[bS];by_cases hx:x>2097152
   ·rw[if_pos (show(decide (x>2097152)||decide (y>2097152))=true by simp[hx]),if_pos (by simp;omega)];simp only[bS];rw[if_pos (by simp)];simp only[bS];rw[if_pos (by simp)];exact⟨_,rfl,rfl,by simp⟩
   ·by_cases hy:y>2097152
    ·rw[if_pos (show(decide (x>2097152)||decide (y>2097152))=true by simp[hy]),if_neg (by simp;omega),if_pos (by simp;omega)];simp only[bS];rw[if_pos (by simp)];simp only[bS];rw[if_pos (by simp)];exact⟨_,rfl,rfl,by simp⟩
    ·rw[if_neg (show ¬(decide (x>2097152)||decide (y>2097152))=true by simp;omega),if_neg (by simp;omega),if_neg (by simp;omega)];simp only[bS];rw[if_neg (by simp)];simp only[bS];rw[if_neg (by simp)];refine⟨_,rfl,rfl,fun _=>⟨⟨_,o1.UC 6,rfl,by simp;omega⟩,?_,Zi3 (by omega) (by omega) (by omega) (by omega) (by omega) (by omega)⟩⟩;unfold J2;simp;omega
theorem Zbi{b B:List Int}(h:On b B):∃r,Vr.f b (pos b B)=some r∧X8.f b (pos b B)=some r∧(r.2.2=0→Left b B r.2.1∧r.1.length≤32∧∀v∈r.1,KZ v):=by
 have JN:=h.ln;have hl0:=h.len;unfold Vr.f X8.f;have pg:Xc.f b (pos b B) 1=_:=Z3m h (w:=1) (by omega) (by omega);have rg:ZN.f b (pos b B) 1=_:=Z7J h (w:=1) (by omega) (by omega);by_cases h1:B.length<1
 ·have e:pN 1 B=none:=by unfold pN;rw[if_pos h1]
  rw[e]at pg rg;refine⟨([],0,10),Zf ?_,Zf ?_,by simp⟩
  ·dsimp only[Vr.F];rw[pg];simp only[bS];rw[if_pos (by simp)]
  ·dsimp only[X8.F];rw[rg];simp only[bS];rw[if_pos (by simp)]
 rw[JU h1]at pg rg;have hb0:=Z1f _ (J3 h.bb 1);have o1:=h.UC 1;have hl1:(B.drop 1).length=B.length-1:=List.length_drop;generalize num (B.take 1)=n at pg rg hb0
 generalize B.drop 1=B1 at pg rg o1 hl1
 dsimp only at pg rg;by_cases h32:n>32
 ·refine⟨([],0,60),Zf ?_,Zf ?_,by simp⟩
  ·dsimp only[Vr.F];rw[pg];simp only[bS];rw[if_neg (by simp),if_pos h32]
  ·dsimp only[X8.F];rw[rg];simp only[bS];rw[if_neg (by simp),if_pos h32]
 have go:∀(d:Nat) (l:List Zp) (B':List Int),On b B'→B'.length<B.length→(l.length:Int)+d=n→(∀v∈l,KZ v) →
     ∃r,Zw (Vr.F b (pos b B)) (.l1 (n,pos b B1,0) (pos b B') l (l.length:Int))=some r∧Zw (X8.F b (pos b B)) (.l1 (n,pos b B1,0) (pos b B') l)=some r∧(r.2.2=0→Left b B r.2.1∧r.1.length≤32∧∀v∈r.1,KZ v):=by
  intro d;induction d with
  |zero=>
   intro l B' o hB hd hv;refine⟨(l,pos b B',0),Zf ?_,Zf ?_,fun _=>⟨⟨B',o,rfl,hB⟩,by show l.length≤32;omega,hv⟩⟩
   ·dsimp only[Vr.F];rw[if_neg (by omega)]
   ·dsimp only[X8.F];rw[if_neg (by omega)]
  |succ d ih=>
   intro l B' o hB hd hv;obtain⟨⟨v,p,e⟩,e1,e2,e3⟩:=ZjB o;dsimp only at e3;by_cases he:e=0
   ·subst he;obtain⟨⟨B2,o2,rfl,hl2⟩,-,hwv⟩:=e3 rfl;obtain⟨r,r1,r2,r3⟩:=ih (l ++ [v]) B2 o2 (by omega) (by simp;omega) (fun x hx=>by
     rcases List.mem_append.1 hx with h|h
     ·exact hv x h
     ·rw[List.mem_singleton]at h;subst h;exact hwv)
    refine⟨r,(Ze ?_).trans r1,(Ze ?_).trans r2,r3⟩
    ·dsimp only[Vr.F];rw[if_pos (by omega),e1];simp only[bS];rw[if_neg (by simp),if_pos (by simp;omega),Zu l.length (by omega)];simp
    ·dsimp only[X8.F];rw[if_pos (by omega),e2];simp only[bS];rw[if_neg (by simp),if_pos (by simp;omega)]
   ·refine⟨([],0,e),Zf ?_,Zf ?_,fun h=>absurd h he⟩
    ·dsimp only[Vr.F];rw[if_pos (by omega),e1];simp only[bS];rw[if_pos he]
    ·dsimp only[X8.F];rw[if_pos (by omega),e2];simp only[bS];rw[if_pos he]
 obtain⟨r,r1,r2,r3⟩:=go n.toNat [] B1 o1 (by omega) (by simp;omega) (by simp);refine⟨r,(Ze ?_).trans r1,(Ze ?_).trans r2,r3⟩
 ·dsimp only[Vr.F];rw[pg];simp only[bS];rw[if_neg (by simp),if_neg h32];rfl
 ·dsimp only[X8.F];rw[rg];simp only[bS];rw[if_neg (by simp),if_neg h32]
end YA
namespace YA
open Zz Y8 Xd XG
noncomputable def nx{S R:Type}(F:S→Option (S⊕R))(o:Option (S⊕R)):Option R:=match o with
 |none=>none
 |some (.inl t)=>Zw F t
 |some (.inr r)=>some r
theorem Z3B{S R:Type}{F:S→Option (S⊕R)}{s:S}{o:Option (S⊕R)}(h:F s=o):Zw F s=nx F o:=by
 rw[Z5g,h];rfl
theorem ZjC(n:Fin 256):TQ.f (n.1:Int)=VU.f (n.1:Int)∧(TQ.f (n.1:Int)).isSome=true:=by
 revert n;decide +kernel
theorem Zg1{x:Int}(h0:0≤x)(h1:x<256):∃b,TQ.f x=some b∧VU.f x=some b:=by
 obtain⟨n,rfl⟩:=Int.eq_ofNat_of_zero_le h0;obtain⟨e,s⟩:=ZjC ⟨n,by omega⟩;dsimp only at e s;obtain⟨b,hb⟩:=Option.isSome_iff_exists.1 s;exact⟨b,hb,e▸hb⟩
theorem Zi4{k x y:Int}(k0:0≤k)(k1:k<256)(x0 : -9223372036854775808≤x)(x1:x<9223372036854775808)(y0 : -9223372036854775808≤y)(y1:y<9223372036854775808):Y5 ⟨k,x,y⟩:=⟨Z9D k0 k1,Z2h x0 x1,Z2h y0 y1⟩
theorem Z7K{x:Int}(h0:0≤x)(h1:x<256):IntKind.u8.wrap x=x:=by rw[ZaI];omega
theorem ZjD{b B:List Int}(h:On b B):∃r,Wq.f b (pos b B)=some r∧Yi.f b (pos b B)=some r∧(r.2.2=0→Left b B r.2.1∧r.1.length≤200∧∀v∈r.1,Y5 v):=by
 have JN:=h.ln;have hl0:=h.len;have hp0:pos b B=(b.length:Int)-(B.length:Int):=rfl;unfold Wq.f Yi.f;have pg:Xc.f b (pos b B) 1=_:=Z3m h (w:=1) (by omega) (by omega);by_cases h1:B.length<1
 ·have e:pN 1 B=none:=by unfold pN;rw[if_pos h1]
  rw[e]at pg;refine⟨([],0,10),Zf ?_,Zf ?_,by simp⟩
  ·dsimp only[Wq.F];rw[pg];simp only[bS];rw[if_pos (by simp)]
  ·dsimp only[Yi.F];rw[if_neg (by simp;omega),if_pos (by omega)]
 rw[JU h1]at pg;have hat:=h.at (i:=0) (by omega)
 rw[show pos b B+((0:Nat):Int)=pos b B by omega,ZW (by omega) (by omega)]at hat;have o1:=h.UC 1;have hpa:IntKind.i64.wrap (pos b B+1)=pos b (B.drop 1):=Z4d h (k:=1) (by omega);have hl1:(B.drop 1).length=B.length-1:=List.length_drop;have hnb:=h.bb;obtain⟨n,B1,rfl,e1,e2⟩:=Z4O h1;rw[e1,e2]at pg;rw[e2]at o1 hpa hl1;have hn:=hnb n (by simp);rw[show(n::B1)[0]=n from rfl]at hat;dsimp only at pg;have hwn:IntKind.i64.wrap n=n:=ZW (by omega) (by omega);have nd:∀x:Int,IntKind.i64.wrap n=x→n=x:=fun x h=>by omega
 by_cases hn2:¬(0<n∧n≤200)
 ·refine⟨([],0,40),Zf ?_,Zf ?_,by simp⟩
  ·dsimp only[Wq.F];rw[pg];simp only[bS];rw[if_neg (by simp),if_pos (by simp;omega)]
  ·dsimp only[Yi.F];rw[if_neg (by simp;omega),if_neg (by omega),hat];simp only[bS];rw[hwn,if_pos (by simp;omega)]
 have go:∀(d:Nat) (l:List Z7) (B':List Int),On b B'→B'.length<(n::B1).length→(l.length:Int)+d=n→(∀v∈l,Y5 v) →
     ∃r,Zw (Wq.F b (pos b (n::B1))) (.l1 (n,pos b B1,0) (l.length:Int) (pos b B') l)=some r∧Zw (Yi.F b (pos b (n::B1))) (.l1 n (pos b B') l)=some r∧(r.2.2=0→Left b (n::B1) r.2.1∧r.1.length≤200∧∀v∈r.1,Y5 v):=by
  intro d;induction d with
  |zero=>
   intro l B' o hB hd hv;refine⟨(l,pos b B',0),Zf ?_,Zf ?_,fun _=>⟨⟨B',o,rfl,hB⟩,by show l.length≤200;omega,hv⟩⟩
   ·dsimp only[Wq.F];rw[if_neg (by omega)]
   ·dsimp only[Yi.F];rw[if_neg (by omega)]
  |succ d ih=>
   intro l B' o hB hd hv;have pg2:Xc.f b (pos b B') 1=_:=Z3m o (w:=1) (by omega) (by omega);have ol:=o.len;have op0:pos b B'=(b.length:Int)-(B'.length:Int):=rfl;by_cases hB1:B'.length<1
   ·have e:pN 1 B'=none:=by unfold pN;rw[if_pos hB1]
    rw[e]at pg2;refine⟨([],0,10),Zf ?_,Zf ?_,by simp⟩
    ·dsimp only[Wq.F];rw[if_pos (by omega),pg2];simp only[bS];rw[if_pos (by simp)]
    ·dsimp only[Yi.F];rw[if_pos (by omega),if_pos (by omega)]
   rw[JU hB1]at pg2;have oat:=o.at (i:=0) (by omega)
   rw[show pos b B'+((0:Nat):Int)=pos b B' by omega,ZW (by omega) (by omega)]at oat;have o2:=o.UC 1;have hpb:IntKind.i64.wrap (pos b B'+1)=pos b (B'.drop 1):=Z4d o (k:=1) (by omega);have hl2:(B'.drop 1).length=B'.length-1:=List.length_drop;have obb:=o.bb;obtain⟨k,B2,rfl,f1,f2⟩:=Z4O hB1;rw[f1,f2]at pg2;rw[f2]at o2 hpb hl2;have hk:=obb k (by simp);rw[show(k::B2)[0]=k from rfl]at oat;dsimp only at pg2;have hlt:¬pos b (k::B2)≥(b.length:Int):=by simp at op0;omega
   obtain⟨kn,k1,k2⟩:=Zg1 hk.1 hk.2;have p2:pos b B2=(b.length:Int)-(B2.length:Int):=rfl;have o2l:=o2.len;cases kn with
   |false=>
    refine⟨([],0,40),Zf ?_,Zf ?_,by simp⟩
    ·dsimp only[Wq.F];rw[if_pos (by omega),pg2];simp only[bS];rw[if_neg (by simp),Z7K hk.1 hk.2,k1];simp only[bS];rw[if_pos (by simp)]
    ·dsimp only[Yi.F];rw[if_pos (by omega),if_neg hlt,oat];simp only[bS];rw[k2];simp only[bS];rw[if_pos (by simp)]
   |true=>
    have hwk:Y5 ⟨k,0,0⟩:=Zi4 hk.1 hk.2 (by omega) (by omega) (by omega) (by omega);have w1:=ZhO hwk;have w2:=Zdw hwk;dsimp only at w1 w2;have next:∀(A:Int) (B3:List Int),-9223372036854775808≤A→A<9223372036854775808→On b B3→B3.length<(n::B1).length →
        ∃r,nx (Wq.F b (pos b (n::B1))) (Wq.j1 b (pos b (n::B1)) (n,pos b B1,0) (l.length:Int) l (k,pos b B2,0) A (pos b B3))=some r∧nx (Yi.F b (pos b (n::B1))) (Yi.j1 b (pos b (n::B1)) n l k (pos b B3) A)=some r∧(r.2.2=0→Left b (n::B1) r.2.1∧r.1.length≤200∧∀v∈r.1,Y5 v):=by
     intro A B3 a0 a1 o3 hB3;have hwi:Y5 ⟨k,A,0⟩:=Zi4 hk.1 hk.2 a0 a1 (by omega) (by omega);unfold Wq.j1 Yi.j1;rw[Z7K hk.1 hk.2,Zdd hwi,Z5y hwi];simp only[bS];cases may ⟨k,A,0⟩with
     |false=>exact⟨([],0,40),rfl,rfl,by simp⟩
     |true=>
      rw[if_neg (show ¬(!true)=true by simp),if_neg (show ¬(!true)=true by simp),if_pos (by simp;omega),if_pos (by simp;omega),Zu l.length (by omega)];obtain⟨r,r1,r2,r3⟩:=ih (l ++ [⟨k,A,0⟩]) B3 o3 hB3 (by simp;omega) (fun x hx=>by
       rcases List.mem_append.1 hx with h|h
       ·exact hv x h
       ·rw[List.mem_singleton]at h;subst h;exact hwi)
      refine⟨r,?_,r2,r3⟩;rw[List.length_append]at r1;exact r1
    cases hwd:Z45 k with
    |false=>
     rw[hwd]at w1 w2;obtain⟨r,r1,r2,r3⟩:=next 0 B2 (by omega) (by omega) o2 (by simp at hB ⊢;omega);refine⟨r,(Z3B ?_).trans r1,(Z3B ?_).trans r2,r3⟩
     ·dsimp only[Wq.F];rw[if_pos (by omega),pg2];simp only[bS];rw[if_neg (by simp),Z7K hk.1 hk.2,k1];simp only[bS];rw[if_neg (by simp),w1];simp only[bS];rw[if_neg (by simp)]
     ·dsimp only[Yi.F];rw[if_pos (by omega),if_neg hlt,oat];simp only[bS];rw[k2];simp only[bS];rw[if_neg (by simp),w2];simp only[bS];rw[if_neg (by simp),hpb]
    |true=>
     rw[hwd]at w1 w2;have pg3:Xc.f b (pos b B2) 2=_:=Z3m o2 (w:=2) (by omega) (by omega);have hd2:IntKind.i64.wrap ((b.length:Int)-pos b B2)=(B2.length:Int):=by rw[p2,ZW (by omega) (by omega)];omega
     by_cases hB2:B2.length<2
     ·have e:pN 2 B2=none:=by unfold pN;rw[if_pos hB2]
      rw[e]at pg3;refine⟨([],0,10),Zf ?_,Zf ?_,by simp⟩
      ·dsimp only[Wq.F];rw[if_pos (by omega),pg2];simp only[bS];rw[if_neg (by simp),Z7K hk.1 hk.2,k1];simp only[bS];rw[if_neg (by simp),w1];simp only[bS];rw[if_pos trivial,pg3];simp only[bS];rw[if_pos (by simp)]
      ·dsimp only[Yi.F];rw[if_pos (by omega),if_neg hlt,oat];simp only[bS];rw[k2];simp only[bS];rw[if_neg (by simp),w2];simp only[bS];rw[if_pos trivial,hpb,hd2,if_pos (by omega)]
     rw[JU hB2]at pg3;have at0:=o2.at (i:=0) (by omega)
     have at1:elt b (IntKind.i64.wrap (pos b B2+1))=some B2[1]:=o2.at (i:=1) (by omega)
     have hp3:IntKind.i64.wrap (pos b B2+2)=pos b (B2.drop 2):=Z4d o2 (k:=2) (by omega);have o3:=o2.UC 2;have b2b:=o2.bb;rcases B2 with _|⟨x0,_|⟨x1,B3⟩⟩
     ·exact absurd (by simp) hB2
     ·exact absurd (by simp) hB2
     ·skip
      have hx0:=b2b x0 (by simp);have hx1:=b2b x1 (by simp);rw[show pos b (x0::x1::B3)+((0:Nat):Int)=pos b (x0::x1::B3) by omega,ZW (by omega) (by omega),show(x0::x1::B3)[0]=x0 from rfl]at at0;rw[show(x0::x1::B3)[1]=x1 from rfl]at at1;rw[show num ((x0::x1::B3).take 2)=x0+256*(x1+256*0) from rfl,show(x0::x1::B3).drop 2=B3 from rfl]at pg3;rw[show(x0::x1::B3).drop 2=B3 from rfl]at hp3 o3;dsimp only at pg3;have hA:IntKind.i64.wrap (IntKind.i64.wrap x0+IntKind.i64.wrap (256*IntKind.i64.wrap x1))=x0+256*(x1+256*0):=by
       rw[ZW (x:=x0) (by omega) (by omega),ZW (x:=x1) (by omega) (by omega),ZW (x:=256*x1) (by omega) (by omega),ZW (by omega) (by omega)];omega
      obtain⟨r,r1,r2,r3⟩:=next (x0+256*(x1+256*0)) B3 (by omega) (by omega) o3 (by simp at hB ⊢;omega);refine⟨r,(Z3B ?_).trans r1,(Z3B ?_).trans r2,r3⟩
      ·dsimp only[Wq.F];rw[if_pos (by omega),pg2];simp only[bS];rw[if_neg (by simp),Z7K hk.1 hk.2,k1];simp only[bS];rw[if_neg (by simp),w1];simp only[bS];rw[if_pos trivial,pg3];simp only[bS];rw[if_neg (by simp)]
      ·dsimp only[Yi.F];rw[if_pos (by omega),if_neg hlt,oat];simp only[bS];rw[k2];simp only[bS];rw[if_neg (by simp),w2];simp only[bS];rw[if_pos trivial,hpb,hd2,if_neg (by simp;omega),at0];simp only[bS];rw[at1];simp only[bS];rw[hp3,hA]
 obtain⟨r,r1,r2,r3⟩:=go n.toNat [] B1 o1 (by simp) (by simp;omega) (by simp);refine⟨r,(Ze ?_).trans r1,(Ze ?_).trans r2,r3⟩
 ·dsimp only[Wq.F];rw[pg];simp only[bS];rw[if_neg (by simp),if_neg (by simp;omega)];rfl
 ·dsimp only[Yi.F];rw[if_neg (by simp;omega),if_neg (by simp at hp0;omega),hat];simp only[bS];rw[hwn,if_neg (by simp;omega),hpa]
end YA
namespace YA
open Zz Y8 Xd XG
def bE{α β:Type}(x:Int⊕α)(f:α→Int⊕β):Int⊕β:=match x with
 | .inl e =>.inl e
 | .inr a=>f a
def TN(w:Nat)(lo hi:Int)(B:List Int):Int⊕(Int×List Int):=if B.length<w then .inl 10 else if lo≤num (B.take w)∧num (B.take w)≤hi then .inr (num (B.take w),B.drop w)else .inl 70
def pKE:Nat→List Int→Int⊕(List Int×List Int)
 | 0,B =>.inr ([],B)
 |n+1,B=>bE (TN 1 1 3 B) fun z=>bE (pKE n z.2) fun y =>.inr (z.1::y.1,y.2)
abbrev Mz:Zb:=⟨[],[],0,false,0,0,0,[]⟩
theorem Z3b{b:List Int}{p e w lo hi:Int}(he:e≠0):Zv.f b p e w lo hi=some (0,p,e):=by
 unfold Zv.f;rw[if_pos he]
theorem Z3C{b B:List Int}(h:On b B){w:Nat}(h1:1≤w)(hw:w≤7)(lo hi:Int) :
    (∃n B',TN w lo hi B=.inr (n,B')∧On b B'∧lo≤n∧n≤hi∧0≤n∧Zv.f b (pos b B) 0 w lo hi=some (n,pos b B',0))∨(∃n p e,e≠0∧TN w lo hi B=.inl e∧Zv.f b (pos b B) 0 w lo hi=some (n,p,e)):=by
 unfold TN Zv.f;rw[if_neg (show ¬((0:Int)≠0) by simp),Z3m h h1 hw];simp only[bS];by_cases hc:B.length<w
 ·have e:pN w B=none:=by unfold pN;rw[if_pos hc]
  rw[e,if_pos hc];right;refine⟨0,0,10,by omega,rfl,?_⟩;dsimp only;rw[if_neg (by simp)];rfl
 ·rw[JU hc,if_neg hc];have hb:=Z1f _ (J3 h.bb w);dsimp only;simp only[bS];by_cases hr:lo≤num (B.take w)∧num (B.take w)≤hi
  ·left;rw[if_pos hr,if_neg (by simp;omega)];exact⟨_,_,rfl,h.UC w,hr.1,hr.2,hb.1,rfl⟩
  ·right;rw[if_neg hr,if_pos (by simp;omega)];exact⟨_,_,70,by omega,rfl,rfl⟩
theorem Zdx{b:List Int}{p e:Int}(he:e≠0):XO.f b p e=some (0,p,e):=by
 unfold XO.f;rw[Z3b he];rfl
theorem ZeE{b B:List Int}(h:On b B) :
    (∃n B',TN 1 1 3 B=.inr (n,B')∧On b B'∧XO.f b (pos b B) 0=some (n,pos b B',0))∨(∃n p e,e≠0∧TN 1 1 3 B=.inl e∧XO.f b (pos b B) 0=some (n,p,e)):=by
 unfold XO.f;rcases Z3C h (w:=1) (by omega) (by omega) 1 3 with ⟨n,B',e1,o,l1,l2,-,e2⟩|⟨n,p,e,he,e1,e2⟩
 ·left;rw[show Zv.f b (pos b B) 0 1 1 3=_ from e2];refine⟨n,B',e1,o,?_⟩;simp only[bS];rw[ZaI,Int.emod_eq_of_lt (by omega) (by omega)]
 ·right;rw[show Zv.f b (pos b B) 0 1 1 3=_ from e2];exact⟨_,p,e,he,e1,rfl⟩
section
variable{b:List Int}(a1:Int)
theorem Zdy{KS l95:List Int}{p e:Int}(he:e≠0):Y6.j2 b a1 KS p e l95=some (.inr (Mz,0,e)):=by
 unfold Y6.j2;simp only[Z3b he,bS];rw[if_pos he]
theorem Zi5{t8:Int×Int×Int}{KS:List Int}{p e:Int}(he:e≠0):Y6.j1 b a1 t8 p e KS=some (.inr (Mz,0,e)):=by
 unfold Y6.j1;rw[Z3b he];simp only[bS];rw[if_neg he,Zdy a1 he]
theorem Zi6{p e:Int}(he:e≠0):∀(n:Nat) (t8:Int×Int×Int) (j:Nat) (l:List Int),t8.1=((j+n:Nat):Int)→j+n≤100→l.length=j→Zw (Y6.F b a1) (.l1 t8 (j:Int) l p e)=some (Mz,0,e)
 | 0,t8,j,l,h,_,_=>by
  rw[Z3B (o:=some (.inr (Mz,0,e))) (by dsimp only[Y6.F];rw[if_neg (by omega),Zi5 a1 he])];rfl
 |n+1,t8,j,l,h,h2,hl=>by
  rw[←Zi6 he n t8 (j+1) (l ++ [0]) (by omega) (by omega) (by simp[hl])];refine Ze ?_;dsimp only[Y6.F];rw[if_pos (by omega),Zdx he];simp only[bS];rw[if_pos (by simp;omega),Zu j (by omega)]
theorem Zi7{p e:Int}(he:e≠0){KS:List Int}:∀(n:Nat) (t53:Int×Int×Int) (j:Nat) (l:List Int),t53.1=((j+n:Nat):Int)→j+n≤100→l.length=j→Zw (Y6.F b a1) (.l2 KS t53 (j:Int) l p e)=some (Mz,0,e)
 | 0,t8,j,l,h,_,_=>by
  rw[Z3B (o:=some (.inr (Mz,0,e))) (by dsimp only[Y6.F];rw[if_neg (by omega),Zdy a1 he])];rfl
 |n+1,t8,j,l,h,h2,hl=>by
  rw[←Zi7 he n t8 (j+1) (l ++ [0]) (by omega) (by omega) (by simp[hl])];refine Ze ?_;dsimp only[Y6.F];rw[if_pos (by omega),Zdx he];simp only[bS];rw[if_pos (by simp;omega),Zu j (by omega)]
theorem Zi8:∀(n:Nat) (t8:Int×Int×Int) (B:List Int) (j:Nat) (l:List Int),On b B→t8.1=((j+n:Nat):Int)→j+n≤100→l.length=j →
    (∃ks B',pKE n B=.inr (ks,B')∧On b B'∧Zw (Y6.F b a1) (.l1 t8 (j:Int) l (pos b B) 0)=nx (Y6.F b a1) (Y6.j1 b a1 t8 (pos b B') 0 (l++ks)))∨(∃e,pKE n B=.inl e∧e≠0∧Zw (Y6.F b a1) (.l1 t8 (j:Int) l (pos b B) 0)=some (Mz,0,e))
 | 0,t8,B,j,l,h,h1,h2,hl =>.inl ⟨[],B,rfl,h,by rw[List.append_nil];exact Z3B (by dsimp only[Y6.F];rw[if_neg (by omega)])⟩
 |n+1,t8,B,j,l,h,h1,h2,hl=>by
  unfold pKE;have st:∀k p e,XO.f b (pos b B) 0=some (k,p,e)→Y6.F b a1 (.l1 t8 (j:Int) l (pos b B) 0)=some (.inl (.l1 t8 ((j+1:Nat):Int) (l ++ [k]) p e)):=fun k p e hk=>by
   dsimp only[Y6.F];rw[if_pos (by omega),hk];simp only[bS];rw[if_pos (by simp;omega),Zu j (by omega)]
  rcases ZeE h with ⟨k,B',e1,o,e2⟩|⟨k,p,e,he,e1,e2⟩
  ·rw[e1];simp only[bE];rw[Ze (st _ _ _ e2)];rcases Zi8 n t8 B' (j+1) (l ++ [k]) o (by omega) (by omega) (by simp[hl])with ⟨ks,B2,q1,q2,q3⟩|⟨e,q1,q2,q3⟩
   ·left;rw[q1];exact⟨_,_,rfl,q2,by rw[q3];simp⟩
   ·right;rw[q1];exact⟨e,rfl,q2,q3⟩
  ·right;rw[e1];exact⟨e,rfl,he,by rw[Ze (st _ _ _ e2)];exact Zi6 a1 he n t8 (j+1) _ (by omega) (by omega) (by simp[hl])⟩
theorem Zi9{KS:List Int}:∀(n:Nat) (t8:Int×Int×Int) (B:List Int) (j:Nat) (l:List Int),On b B→t8.1=((j+n:Nat):Int)→j+n≤100→l.length=j →
    (∃ks B',pKE n B=.inr (ks,B')∧On b B'∧Zw (Y6.F b a1) (.l2 KS t8 (j:Int) l (pos b B) 0)=nx (Y6.F b a1) (Y6.j2 b a1 KS (pos b B') 0 (l++ks)))∨(∃e,pKE n B=.inl e∧e≠0∧Zw (Y6.F b a1) (.l2 KS t8 (j:Int) l (pos b B) 0)=some (Mz,0,e))
 | 0,t8,B,j,l,h,h1,h2,hl =>.inl ⟨[],B,rfl,h,by rw[List.append_nil];exact Z3B (by dsimp only[Y6.F];rw[if_neg (by omega)])⟩
 |n+1,t8,B,j,l,h,h1,h2,hl=>by
  unfold pKE;have st:∀k p e,XO.f b (pos b B) 0=some (k,p,e)→Y6.F b a1 (.l2 KS t8 (j:Int) l (pos b B) 0)=some (.inl (.l2 KS t8 ((j+1:Nat):Int) (l ++ [k]) p e)):=fun k p e hk=>by
   dsimp only[Y6.F];rw[if_pos (by omega),hk];simp only[bS];rw[if_pos (by simp;omega),Zu j (by omega)]
  rcases ZeE h with ⟨k,B',e1,o,e2⟩|⟨k,p,e,he,e1,e2⟩
  ·rw[e1];simp only[bE];rw[Ze (st _ _ _ e2)];rcases Zi9 n t8 B' (j+1) (l ++ [k]) o (by omega) (by omega) (by simp[hl])with ⟨ks,B2,q1,q2,q3⟩|⟨e,q1,q2,q3⟩
   ·left;rw[q1];exact⟨_,_,rfl,q2,by rw[q3];simp⟩
   ·right;rw[q1];exact⟨e,rfl,q2,q3⟩
  ·right;rw[e1];exact⟨e,rfl,he,by rw[Ze (st _ _ _ e2)];exact Zi7 a1 he n t8 (j+1) _ (by omega) (by omega) (by simp[hl])⟩
end
end YA
namespace YA
open Zz Y8 Xd XG
theorem ZsZ{b B:List Int}(h:On b B){w:Nat}(h1:1≤w)(hw:w≤7)(lo hi:Int) :
    (∃n B',TN w lo hi B=.inr (n,B')∧ZN.f b (pos b B) w=some (n,pos b B',0)∧lo≤n∧n≤hi∧B'=B.drop w∧w≤B.length)∨(TN w lo hi B=.inl 10∧ZN.f b (pos b B) w=some (0,0,10))∨(∃n p,TN w lo hi B=.inl 70∧ZN.f b (pos b B) w=some (n,p,0)∧(n<lo∨n>hi)):=by
 have rg:=Z7J h h1 hw;unfold TN;by_cases hc:B.length<w
 ·have e:pN w B=none:=by unfold pN;rw[if_pos hc]
  rw[e]at rg;exact .inr (.inl ⟨by rw[if_pos hc],rg⟩)
 ·rw[JU hc]at rg;rw[if_neg hc];by_cases hr:lo≤num (B.take w)∧num (B.take w)≤hi
  ·exact .inl ⟨_,_,by rw[if_pos hr],rg,hr.1,hr.2,rfl,by omega⟩
  ·exact .inr (.inr ⟨_,_,by rw[if_neg hr],rg,by omega⟩)
theorem ZeF{k:Int}:loc k=true↔1≤k∧k≤3:=by
 rw[ZhV];simp;omega
theorem ZoW{b:List Int}{a1 n most:Int}(ha:0≤a1)(hn:n≤100):∀(d:Nat) (B:List Int) (l:List Int),On b B→pos b B=a1+((l.length:Int)+1)→(l.length:Int)+d=n→l.all loc=true →
    (∃ks B2,pKE d B=.inr (ks,B2)∧On b B2∧B2.length≤B.length∧Zw (YB.F b a1 most) (.l1 n l ((l.length:Int)+1))=some (l++ks,pos b B2,0))∨(∃e,pKE d B=.inl e∧e≠0∧Zw (YB.F b a1 most) (.l1 n l ((l.length:Int)+1))=some ([],0,e)):=by
 intro d;induction d with
 |zero=>
  intro B l o hp hd ha2;have ol:=o.len;have o3:=o.ln;have hpp:pos b B=(b.length:Int)-(B.length:Int):=rfl;refine .inl ⟨[],B,rfl,o,Nat.le_refl _,Zf ?_⟩;dsimp only[YB.F];rw[ZW (x:=n) (by omega) (by omega),if_neg (by omega),ZW (x:=a1+1) (by omega) (by omega),ZW (by omega) (by omega),List.append_nil,hp];congr 4;omega
 |succ d ih=>
  intro B l o hp hd ha2;have ol:=o.len;have o3:=o.ln;have hpp:pos b B=(b.length:Int)-(B.length:Int):=rfl;have hw1:IntKind.i64.wrap (a1+((l.length:Int)+1))=pos b B:=by rw[ZW (by omega) (by omega),hp]
  have hwn:IntKind.i64.wrap n=n:=ZW (by omega) (by omega);unfold pKE TN;by_cases hB:B.length<1
  ·rw[if_pos hB];refine .inr ⟨10,rfl,by omega,Zf ?_⟩;dsimp only[YB.F];rw[hwn,if_pos (by omega),hw1,if_pos (by omega)]
  ·rw[if_neg hB];have oat:=o.at (i:=0) (by omega)
   rw[show pos b B+((0:Nat):Int)=pos b B by omega,ZW (by omega) (by omega)]at oat;have o2:=o.UC 1;obtain⟨k,B2,rfl,f1,f2⟩:=Z4O hB;rw[f2]at o2;rw[f1,f2];rw[show(k::B2)[0]=k from rfl]at oat;have hall:(l ++ [k]).all loc=loc k:=by rw[List.all_append,ha2];simp
   have hk:=ZaH (l:=l ++ [k]) (by simp;omega);rw[hall]at hk;have body:YB.F b a1 most (.l1 n l ((l.length:Int)+1))=if loc k=true then some (.inl (.l1 n (l ++ [k]) (((l ++ [k]).length:Int)+1)))else some (.inr ([],0,70)):=by
    dsimp only[YB.F];rw[hwn,if_pos (by omega),hw1,if_neg (by simp at hpp;omega),oat];simp only[bS];rw[if_pos (by simp;omega),hk];simp only[bS];rw[ZW (x:=(l.length:Int)+1+1) (by omega) (by omega)];cases loc k<;>simp
   cases hl:loc k with
   |false=>
    have:¬(1≤k∧k≤3):=fun h=>by rw[←ZeF,hl]at h;cases h
    rw[if_neg this];refine .inr ⟨70,rfl,by omega,Zf ?_⟩;rw[body,hl];rfl
   |true=>
    rw[if_pos (ZeF.1 hl)];have hp2:pos b B2=a1+(((l ++ [k]).length:Int)+1):=by simp at hpp ⊢;unfold pos;omega
    have st:Zw (YB.F b a1 most) (.l1 n l ((l.length:Int)+1))=Zw (YB.F b a1 most) (.l1 n (l ++ [k]) (((l ++ [k]).length:Int)+1)):=Ze (by rw[body,hl];rfl);rcases ih B2 (l ++ [k]) o2 hp2 (by simp;omega) (by rw[hall,hl])with ⟨ks,B3,q1,q2,q3,q4⟩|⟨e,q1,q2,q3⟩
    ·refine .inl ⟨k::ks,B3,by simp only[bE,q1],q2,by simp;omega,?_⟩;rw[st,q4];simp
    ·exact .inr ⟨e,by simp only[bE,q1],q2,by rw[st,q3]⟩
theorem Zkn{b B:List Int}(h:On b B){most:Int}(hm:most≤100) :
    (∃a B1 ks B2,TN 1 0 most B=.inr (a,B1)∧pKE a.toNat B1=.inr (ks,B2)∧On b B2∧YB.f b (pos b B) most=some (ks,pos b B2,0)) ∨
    (∃e,e≠0∧YB.f b (pos b B) most=some ([],0,e)∧(TN 1 0 most B=.inl e∨∃a B1,TN 1 0 most B=.inr (a,B1)∧pKE a.toNat B1=.inl e)):=by
 have ol:=h.len;have o3:=h.ln;have hpp:pos b B=(b.length:Int)-(B.length:Int):=rfl;unfold YB.f;by_cases hB:B.length<1
 ·refine .inr ⟨10,by omega,Zf ?_,.inl (by unfold TN;rw[if_pos hB])⟩;dsimp only[YB.F];rw[if_pos (by omega)]
 have oat:=h.at (i:=0) (by omega)
 rw[show pos b B+((0:Nat):Int)=pos b B by omega,ZW (by omega) (by omega)]at oat;have o2:=h.UC 1;have hbb:=h.bb;obtain⟨k,B2,rfl,f1,f2⟩:=Z4O hB;rw[f2]at o2;rw[show(k::B2)[0]=k from rfl]at oat;have hk:=hbb k (by simp);have hwk:IntKind.i64.wrap k=k:=ZW (by omega) (by omega);by_cases hc:k>most
 ·refine .inr ⟨70,by omega,Zf ?_,.inl (by unfold TN;rw[if_neg hB,f1,if_neg (by omega)])⟩;dsimp only[YB.F];rw[if_neg (by simp at hpp;omega),oat];simp only[bS];rw[hwk,if_pos hc]
 have e1:TN 1 0 most (k::B2)=.inr (k,B2):=by unfold TN;rw[if_neg hB,f1,f2,if_pos (by omega)]
 have st:Zw (YB.F b (pos b (k::B2)) most) .start=Zw (YB.F b (pos b (k::B2)) most) (.l1 k [] ((([]:List Int).length:Int)+1)):=Ze (by
  dsimp only[YB.F];rw[if_neg (by simp at hpp;omega),oat];simp only[bS];rw[hwk,if_neg hc];rfl)
 rcases ZoW (most:=most) (a1:=pos b (k::B2)) (n:=k) (by omega) (by omega) k.toNat B2 [] o2 (by show pos b B2=pos b (k::B2)+((0:Int)+1);unfold pos;rw[List.length_cons];omega) (by simp;omega) rfl with ⟨ks,B3,q1,q2,q3,q4⟩|⟨e,q1,q2,q3⟩
 ·exact .inl ⟨k,B2,ks,B3,e1,q1,q2,by rw[st,q4];rfl⟩
 ·exact .inr ⟨e,q2,by rw[st,q3],.inr ⟨k,B2,e1,q1⟩⟩
end YA
namespace YA
open Zz Y8 Xd XG
def pME(B:List Int):Int⊕(Zb×List Int):=
 bE (TN 1 0 4 B) fun a=>bE (pKE a.1.toNat a.2) fun aa=>bE (TN 1 0 (16-a.1) aa.2) fun l=>bE (pKE l.1.toNat l.2) fun ls=>
 bE (TN 1 1 2 ls.2) fun re=>bE (TN 1 0 1 re.2) fun rd=>bE (TN 3 0 1048576 rd.2) fun fu=>bE (TN 2 0 256 fu.2) fun st=>bE (TN 2 0 1024 st.2) fun he=>
 .inr (⟨aa.1,ls.1,re.1,decide (rd.1=1),fu.1,st.1,he.1,[]⟩,he.2)
def ZbM(b:List Int)(x:Int⊕(Zb×List Int)):Zb×Int×Int:=match x with
 | .inl e=>(Mz,0,e)
 | .inr (m,B')=>(m,pos b B',0)
theorem Z1g{α β:Type}{x:Int⊕α}{f:α→Int⊕β}{r:β}(h:bE x f=.inr r):∃a,x=.inr a∧f a=.inr r:=by
 cases x with
 |inl e=>cases h
 |inr a=>exact⟨a,rfl,h⟩
theorem KR{w:Nat}{lo hi:Int}{B B':List Int}{n:Int}(h:TN w lo hi B=.inr (n,B')):lo≤n∧n≤hi∧B'=B.drop w∧w≤B.length:=by
 unfold TN at h;split at h
 ·cases h
 ·split at h
  ·rename_i h1 h2
   cases h;exact⟨h2.1,h2.2,rfl,by omega⟩
  ·cases h
theorem Z7L{b:List Int}:∀{n:Nat} {B B':List Int} {ks:List Int},On b B→pKE n B=.inr (ks,B')→On b B'∧ks.length=n∧∀k∈ks,1≤k∧k≤3
 | 0,B,B',ks,o,h=>by unfold pKE at h;cases h;exact⟨o,rfl,by simp⟩
 |n+1,B,B',ks,o,h=>by
  unfold pKE at h;obtain⟨⟨k,B1⟩,h1,h⟩:=Z1g h;obtain⟨⟨l,B2⟩,h2,h⟩:=Z1g h;cases h;obtain⟨k1,k2,rfl,-⟩:=KR h1;obtain⟨q1,q2,q3⟩:=Z7L (o.UC 1) h2;exact⟨q1,by simp[q2],fun x hx=>by
   rcases List.mem_cons.1 hx with rfl|hx
   ·exact⟨k1,k2⟩
   ·exact q3 x hx⟩
theorem Zls{b B B':List Int}{x:Zb}(h:On b B)(e:pME B=.inr (x,B')):On b B'∧x.Args.length≤4∧x.Zk.length≤16∧Z3J x∧x.Code=[]:=by
 unfold pME at e;obtain⟨⟨a,B1⟩,e1,e⟩:=Z1g e;obtain⟨⟨aa,B2⟩,e2,e⟩:=Z1g e;obtain⟨⟨l,B3⟩,e3,e⟩:=Z1g e;obtain⟨⟨ls,B4⟩,e4,e⟩:=Z1g e;obtain⟨⟨re,B5⟩,e5,e⟩:=Z1g e;obtain⟨⟨rd,B6⟩,e6,e⟩:=Z1g e;obtain⟨⟨fu,B7⟩,e7,e⟩:=Z1g e;obtain⟨⟨st,B8⟩,e8,e⟩:=Z1g e;obtain⟨⟨hp,B9⟩,e9,e⟩:=Z1g e;cases e;obtain⟨a0,a1,rfl,-⟩:=KR e1;obtain⟨o2,q2,k2⟩:=Z7L (h.UC 1) e2;obtain⟨l0,l1,rfl,-⟩:=KR e3;obtain⟨o4,q4,k4⟩:=Z7L (o2.UC 1) e4;obtain⟨r0,r1,rfl,-⟩:=KR e5;obtain⟨d0,d1,rfl,-⟩:=KR e6;obtain⟨f0,f1,rfl,-⟩:=KR e7;obtain⟨s0,s1,rfl,-⟩:=KR e8;obtain⟨h0,h1,rfl,-⟩:=KR e9;dsimp only at *;have m:(20:Nat)≤maxLen:=by unfold maxLen;omega
 have ha:aa.length≤maxLen:=by omega
 have hl:ls.length≤maxLen:=by omega
 have m0:(0:Nat)≤maxLen:=Nat.zero_le _;have ha4:aa.length≤4:=by omega
 have ZwD:ls.length≤16:=by omega
 have kk:∀{x:Int},1≤x∧x≤3→(Lit.int .u8 x).wf=true:=fun h=>Z9D (by omega) (by omega);have wr:(Lit.int .u8 re).wf=true:=Z9D (by omega) (by omega);have wfu:(Lit.int .i64 fu).wf=true:=Z2h (by omega) (by omega);have wst:(Lit.int .i64 st).wf=true:=Z2h (by omega) (by omega);have whp:(Lit.int .i64 hp).wf=true:=Z2h (by omega) (by omega);exact⟨((((o4.UC 1).UC 1).UC 3).UC 2).UC 2,ha4,ZwD,⟨⟨ha,fun y hy=>kk (k2 y hy)⟩,⟨hl,fun y hy=>kk (k4 y hy)⟩,wr,trivial,wfu,wst,whp,⟨m0,fun y hy=>by cases hy⟩⟩,rfl⟩
theorem ZoX{b B:List Int}(h:On b B):Y6.f b (pos b B)=some (ZbM b (pME B)):=by
 unfold Y6.f pME;generalize ha:pos b B=a1;rcases Z3C h (w:=1) (by omega) (by omega) 0 4 with ⟨a,B1,e1,o1,-,l1,g1,c1⟩|⟨n,p,e,he,e1,c1⟩
 case inr=>
  rw[e1];show _=some (Mz,0,e);refine Zf ?_;rw[ha]at c1;dsimp only[Y6.F];rw[show Zv.f b a1 0 1 0 4=_ from c1];simp only[bS,bE];rw[if_neg he,Zi5 a1 he]
 rw[e1,Ze (t :=.l1 (a,pos b B1,0) ((0:Nat):Int) [] (pos b B1) 0) (by
  rw[ha]at c1;dsimp only[Y6.F];rw[show Zv.f b a1 0 1 0 4=_ from c1];simp only[bS,bE];rw[if_pos trivial];rfl)]
 simp only[bS,bE];rcases Zi8 a1 a.toNat (a,pos b B1,0) B1 0 [] o1 (by simp;omega) (by omega) rfl with ⟨aa,B2,e2,o2,c2⟩|⟨e,e2,he,c2⟩
 case inr=>rw[e2];exact c2
 rw[e2,c2];simp only[bS,bE];rw[List.nil_append];have w16:IntKind.i64.wrap (16-a)=16-a:=ZW (by omega) (by omega);unfold Y6.j1;dsimp only;rw[w16];rcases Z3C o2 (w:=1) (by omega) (by omega) 0 (16-a)with ⟨l,B3,e3,o3,-,l3,g3,c3⟩|⟨n,p,e,he,e3,c3⟩
 case inr=>
  rw[e3,show Zv.f b (pos b B2) 0 1 0 (16-a)=_ from c3];simp only[bS,bE];rw[if_neg he,Zdy a1 he];rfl
 rw[e3,show Zv.f b (pos b B2) 0 1 0 (16-a)=_ from c3];simp only[bS,bE];rw[if_pos trivial];show Zw (Y6.F b a1) (.l2 aa (l,pos b B3,0) ((0:Nat):Int) [] (pos b B3) 0)=_;rcases Zi9 a1 (KS:=aa) l.toNat (l,pos b B3,0) B3 0 [] o3 (by simp;omega) (by omega) rfl with ⟨ls,B4,e4,o4,c4⟩|⟨e,e4,he,c4⟩
 case inr=>rw[e4];exact c4
 rw[e4,c4];simp only[bS,bE];rw[List.nil_append];unfold Y6.j2;rcases Z3C o4 (w:=1) (by omega) (by omega) 1 2 with ⟨re,B5,e5,o5,k5,l5,g5,c5⟩|⟨n,p,e,he,e5,c5⟩
 case inr=>
  rw[e5,show Zv.f b (pos b B4) 0 1 1 2=_ from c5];simp only[bS,bE,Z3b he];rw[if_pos he];rfl
 rw[e5,show Zv.f b (pos b B4) 0 1 1 2=_ from c5];simp only[bS,bE];rcases Z3C o5 (w:=1) (by omega) (by omega) 0 1 with ⟨rd,B6,e6,o6,-,l6,g6,c6⟩|⟨n,p,e,he,e6,c6⟩
 case inr=>
  rw[e6,show Zv.f b (pos b B5) 0 1 0 1=_ from c6];simp only[bS,bE,Z3b he];rw[if_pos he];rfl
 rw[e6,show Zv.f b (pos b B5) 0 1 0 1=_ from c6];simp only[bS,bE];rcases Z3C o6 (w:=3) (by omega) (by omega) 0 1048576 with ⟨fu,B7,e7,o7,-,l7,g7,c7⟩|⟨n,p,e,he,e7,c7⟩
 case inr=>
  rw[e7,show Zv.f b (pos b B6) 0 3 0 1048576=_ from c7];simp only[bS,bE,Z3b he];rw[if_pos he];rfl
 rw[e7,show Zv.f b (pos b B6) 0 3 0 1048576=_ from c7];simp only[bS,bE];rcases Z3C o7 (w:=2) (by omega) (by omega) 0 256 with ⟨st,B8,e8,o8,-,l8,g8,c8⟩|⟨n,p,e,he,e8,c8⟩
 case inr=>
  rw[e8,show Zv.f b (pos b B7) 0 2 0 256=_ from c8];simp only[bS,bE,Z3b he];rw[if_pos he];rfl
 rw[e8,show Zv.f b (pos b B7) 0 2 0 256=_ from c8];simp only[bS,bE];rcases Z3C o8 (w:=2) (by omega) (by omega) 0 1024 with ⟨hp,B9,e9,o9,-,l9,g9,c9⟩|⟨n,p,e,he,e9,c9⟩
 case inr=>
  rw[e9,show Zv.f b (pos b B8) 0 2 0 1024=_ from c9];simp only[bS,bE];rw[if_pos he];rfl
 rw[e9,show Zv.f b (pos b B8) 0 2 0 1024=_ from c9];simp only[bS,bE];rw[if_neg (by simp),ZaI,Int.emod_eq_of_lt (by omega) (by omega)];rfl
end YA
namespace YA
open Zz Y8 Xd XG
theorem ZeG{w:Nat}{lo hi e:Int}{B:List Int}(h:TN w lo hi B=.inl e):e=10∨e=70:=by
 unfold TN at h;split at h
 ·cases h;exact .inl rfl
 ·split at h
  ·cases h
  ·cases h;exact .inr rfl
theorem Z9G{b B:List Int}(o:On b B){w:Nat}{wi:Int}(hwi:wi=w)(h1:1≤w)(hw:w≤7)(lo hi:Int){α:Type}(z10 z70:α)(K:Int×Int×Int→Option α) :
    ((ZN.f b (pos b B) wi).bind fun t=>if t.2.2≠0 then some z10 else((if t.1<lo then some true else some (decide (t.1>hi))).bind fun c=>if c=true then some z70 else K t)) =
     match TN w lo hi B with
     | .inl e=>some (if e=10 then z10 else z70)
     | .inr (n,B')=>K (n,pos b B',0):=by
 subst hwi;rcases ZsZ o h1 hw lo hi with ⟨n,B',e1,g1,n0,n1,-,-⟩|⟨e1,g1⟩|⟨n,p,e1,g1,hx⟩
 ·rw[e1,g1];simp only[bS];rw[if_neg (by simp),if_neg (by omega)];simp only[bS];rw[if_neg (by simp;omega)]
 ·rw[e1,g1];simp only[bS];rw[if_pos (by simp),if_pos trivial]
 ·rw[e1,g1];simp only[bS];rw[if_neg (by simp),if_neg (show ¬(70:Int)=10 by omega)];by_cases hlt:n<lo
  ·rw[if_pos hlt];simp only[bS];rw[if_pos trivial]
  ·rw[if_neg hlt];simp only[bS];rw[if_pos (by simp;omega)]
theorem ZoY{b B:List Int}(h:On b B):Ub.f b (pos b B)=some (ZbM b (pME B)):=by
 have hl:=h.len;have h3:=h.ln;have hp:pos b B=(b.length:Int)-(B.length:Int):=rfl;unfold Ub.f pME;rw[if_neg (by simp;omega)];rcases Zkn h (most:=4) (by omega)with ⟨a,B1,aa,B2,e1,e2,o2,c⟩|⟨e,he,c,e1|⟨a,B1,e1,e2⟩⟩
 case inr.inl=>
  rw[c,e1];simp only[bS,bE];rw[if_pos he];rfl
 case inr.inr=>
  rw[c,e1];simp only[bS,bE];rw[e2,if_pos he];rfl
 obtain⟨a0,a1,hB1,-⟩:=KR e1;have hq:=(Z7L (hB1▸h.UC 1) e2).2.1;rw[c,e1];simp only[bS,bE];rw[e2];simp only;rw[if_neg (show ¬((0:Int)≠0) by simp),show IntKind.i64.wrap (16-(aa.length:Int))=16-a by rw[ZW (by omega) (by omega)];omega];rcases Zkn o2 (most:=16-a) (by omega)with ⟨l,B3,ls,B4,e3,e4,o4,c2⟩|⟨e,he,c2,e3|⟨l,B3,e3,e4⟩⟩
 case inr.inl=>
  rw[c2,e3];simp only[bS];rw[if_pos he];rfl
 case inr.inr=>
  rw[c2,e3];simp only[bS];rw[e4,if_pos he];rfl
 rw[c2,e3];simp only[bS];rw[e4];simp only;rw[if_neg (show ¬((0:Int)≠0) by simp)];simp only[show elt ([1,1,3,2,2]:List Int) 0=some 1 from rfl,show elt ([1,1,3,2,2]:List Int) 1=some 1 from rfl,show elt ([1,1,3,2,2]:List Int) 2=some 3 from rfl,show elt ([1,1,3,2,2]:List Int) 3=some 2 from rfl,show elt ([1,1,3,2,2]:List Int) 4=some 2 from rfl,
  show elt ([1,0,0,0,0]:List Int) 0=some 1 from rfl,show elt ([1,0,0,0,0]:List Int) 1=some 0 from rfl,show elt ([1,0,0,0,0]:List Int) 2=some 0 from rfl,show elt ([1,0,0,0,0]:List Int) 3=some 0 from rfl,show elt ([1,0,0,0,0]:List Int) 4=some 0 from rfl,
  show elt ([2,1,1048576,256,1024]:List Int) 0=some 2 from rfl,show elt ([2,1,1048576,256,1024]:List Int) 1=some 1 from rfl,show elt ([2,1,1048576,256,1024]:List Int) 2=some 1048576 from rfl,show elt ([2,1,1048576,256,1024]:List Int) 3=some 256 from rfl,show elt ([2,1,1048576,256,1024]:List Int) 4=some 1024 from rfl,bS]
 have z:∀{w:Nat} {lo hi e:Int} {X:List Int},TN w lo hi X=.inl e→(some (if e=10 then(Mz,(0:Int),(10:Int))else(Mz,0,70)))=some (Mz,0,e):=fun h=>by
  rcases ZeG h with rfl|rfl<;>rfl
 rw[Z9G o4 (w:=1) (wi:=1) rfl (by omega) (by omega)];cases e5:TN 1 1 2 B4 with
 |inl e=>exact z e5
 |inr x5=>
 obtain⟨re,B5⟩:=x5;obtain⟨r0,r1,hB5,-⟩:=KR e5;have o5:On b B5:=hB5▸o4.UC 1;simp only;rw[if_pos (by simp),Z9G o5 (w:=1) (wi:=1) rfl (by omega) (by omega)];cases e6:TN 1 0 1 B5 with
 |inl e=>exact z e6
 |inr x6=>
 obtain⟨rd,B6⟩:=x6;obtain⟨-,-,hB6,-⟩:=KR e6;have o6:On b B6:=hB6▸o5.UC 1;simp only;rw[if_pos (by simp),Z9G o6 (w:=3) (wi:=3) rfl (by omega) (by omega)];cases e7:TN 3 0 1048576 B6 with
 |inl e=>exact z e7
 |inr x7=>
 obtain⟨fu,B7⟩:=x7;obtain⟨-,-,hB7,-⟩:=KR e7;have o7:On b B7:=hB7▸o6.UC 3;simp only;rw[if_pos (by simp),Z9G o7 (w:=2) (wi:=2) rfl (by omega) (by omega)];cases e8:TN 2 0 256 B7 with
 |inl e=>exact z e8
 |inr x8=>
 obtain⟨st,B8⟩:=x8;obtain⟨-,-,hB8,-⟩:=KR e8;have o8:On b B8:=hB8▸o7.UC 2;simp only;rw[if_pos (by simp),Z9G o8 (w:=2) (wi:=2) rfl (by omega) (by omega)];cases e9:TN 2 0 1024 B8 with
 |inl e=>exact z e9
 |inr x9=>
 obtain⟨hp9,B9⟩:=x9;simp only;rw[if_pos (by simp)];show some ((⟨aa,ls,IntKind.u8.wrap re,decide (rd=1),fu,st,hp9,[]⟩:Zb),pos b B9,(0:Int))=_;rw[Z7K (by omega) (by omega)];rfl
end YA
namespace YA
open Zz Y8 Xd XG
abbrev Zm:Zc:=⟨[],[],[],0⟩
def Gm(l:List Zb):Prop:=∀x∈l,Z3J x∧x.Args.length≤100∧x.Zk.length≤100∧x.Code.length≤300
theorem Z1h{α β:Type}{x:Int⊕α}{f:α→Int⊕β}{e:Int}(h:bE x f=.inl e):x=.inl e∨∃a,x=.inr a∧f a=.inl e:=by
 cases x with
 |inl e=>cases h;exact .inl rfl
 |inr a=>exact .inr ⟨a,rfl,h⟩
theorem Z2j{w:Nat}{lo hi e:Int}{B:List Int}(h:TN w lo hi B=.inl e):e≠0:=by
 rcases ZeG h with rfl|rfl<;>omega
theorem ZaJ:∀{n:Nat} {B:List Int} {e:Int},pKE n B=.inl e→e≠0
 | 0,B,e,h=>by unfold pKE at h;cases h
 |n+1,B,e,h=>by
  unfold pKE at h;rcases Z1h h with h|⟨a,-,h⟩
  ·exact Z2j h
  rcases Z1h h with h|⟨a,-,h⟩
  ·exact ZaJ h
  ·cases h
theorem Zlt{B:List Int}{e:Int}(h:pME B=.inl e):e≠0:=by
 unfold pME at h;rcases Z1h h with h|⟨a,-,h⟩
 ·exact Z2j h
 rcases Z1h h with h|⟨a,-,h⟩
 ·exact ZaJ h
 rcases Z1h h with h|⟨a,-,h⟩
 ·exact Z2j h
 rcases Z1h h with h|⟨a,-,h⟩
 ·exact ZaJ h
 rcases Z1h h with h|⟨a,-,h⟩
 ·exact Z2j h
 rcases Z1h h with h|⟨a,-,h⟩
 ·exact Z2j h
 rcases Z1h h with h|⟨a,-,h⟩
 ·exact Z2j h
 rcases Z1h h with h|⟨a,-,h⟩
 ·exact Z2j h
 rcases Z1h h with h|⟨a,-,h⟩
 ·exact Z2j h
 ·cases h
theorem Z8C{b B:List Int}(h:On b B) :
    (∃e,e≠0∧Z09.f b (pos b B)=some (Mz,0,e)∧Ub.f b (pos b B)=some (Mz,0,e)) ∨
    (∃x p c q e,Ub.f b (pos b B)=some (x,p,0)∧Yi.f b p=some (c,q,e)∧Z09.f b (pos b B)=some (⟨x.Args,x.Zk,x.Result,x.Reads,x.Fuel,x.Stack,x.Heap,c⟩,q,e) ∧
     (e=0→∃B',On b B'∧q=pos b B'∧Gm [⟨x.Args,x.Zk,x.Result,x.Reads,x.Fuel,x.Stack,x.Heap,c⟩])):=by
 have rm:=ZoY h;have pm:=ZoX h;unfold Z09.f;rw[pm];cases hx:pME B with
 |inl e=>
  rw[hx]at rm;have he:e≠0:=Zlt hx;refine .inl ⟨e,he,?_,rm⟩;simp only[bS,ZbM];rw[if_pos he]
 |inr x=>
  obtain⟨x,B'⟩:=x;rw[hx]at rm;obtain⟨o,ha,hl,hw,-⟩:=Zls h hx;obtain⟨⟨c,q,e⟩,c1,c2,c3⟩:=ZjD o;refine .inr ⟨x,pos b B',c,q,e,rm,c2,?_,fun he=>?_⟩
  ·simp only[bS,ZbM];rw[if_neg (by simp),c1];rfl
  ·obtain⟨⟨B2,o2,hq,-⟩,hcl,hcw⟩:=c3 he;refine⟨B2,o2,hq,fun y hy=>?_⟩;rw[List.mem_singleton]at hy;subst hy;have m:(300:Nat)≤maxLen:=by unfold maxLen;omega
   have ZDB:c.length≤200:=hcl;have hcm:c.length≤maxLen:=by omega
   have a1:x.Args.length≤100:=by omega
   have a2:x.Zk.length≤100:=by omega
   have a3:c.length≤300:=by omega
   exact⟨⟨hw.1,hw.2.1,hw.2.2.1,trivial,hw.2.2.2.2.1,hw.2.2.2.2.2.1,hw.2.2.2.2.2.2.1,⟨hcm,hcw⟩⟩,a1,a2,a3⟩
theorem Zg2{b:List Int}(hbt:Byt b)(hbl:b.length≤3000):∃r,ZQ.f b=some r∧ZX.f b=some r∧(r.2=0→XK r.1∧Small r.1):=by
 have o0:On b b:=⟨List.suffix_refl b,hbt,hbl⟩
 have p0:pos b b=0:=by unfold pos;omega
 unfold ZQ.f ZX.f;by_cases h2:(b.length:Int)>2000
 ·refine⟨(Zm,3),Zf ?_,Zf ?_,by simp⟩
  ·dsimp only[ZQ.F];rw[if_pos h2]
  ·dsimp only[ZX.F];rw[if_pos h2]
 obtain⟨⟨g,gp,ge⟩,g1,g2,g3⟩:=Zbi o0;rw[p0]at g1 g2;dsimp only at g3;by_cases hge:ge=0
 case neg=>
  refine⟨(Zm,ge),Zf ?_,Zf ?_,fun h=>absurd h hge⟩
  ·dsimp only[ZQ.F];rw[if_neg h2,g1];simp only[bS];rw[if_neg (by simp[hge]),if_pos hge];unfold ZQ.j2;rw[if_pos hge]
  ·dsimp only[ZX.F];rw[if_neg h2,g2];simp only[bS];rw[if_pos hge]
 subst hge;obtain⟨⟨B1,o1,rfl,-⟩,-,gw⟩:=g3 rfl;by_cases hg4:(g.length:Int)>4
 ·refine⟨(Zm,80),Zf ?_,Zf ?_,by simp⟩
  ·dsimp only[ZQ.F];rw[if_neg h2,g1];simp only[bS];rw[if_pos (by simp;omega)];rfl
  ·dsimp only[ZX.F];rw[if_neg h2,g2];simp only[bS];rw[if_neg (by simp),if_pos hg4]
 obtain⟨⟨p,pp,pe⟩,q1,q2,q3⟩:=Zbi o1;dsimp only at q3;have A:∀X,ZQ.F b .start=X→True:=fun _ _=>trivial;by_cases hpe:pe=0
 case neg=>
  refine⟨(Zm,pe),Zf ?_,Zf ?_,fun h=>absurd h hpe⟩
  ·dsimp only[ZQ.F];rw[if_neg h2,g1];simp only[bS];rw[if_neg (by simp;omega),if_neg (by simp),q1];simp only[bS];rw[if_pos hpe];unfold ZQ.j2;rw[if_pos hpe]
  ·dsimp only[ZX.F];rw[if_neg h2,g2];simp only[bS];rw[if_neg (by simp),if_neg hg4,q2];simp only[bS];rw[if_pos hpe]
 subst hpe;obtain⟨⟨B2,o2,rfl,-⟩,ZwE,pw⟩:=q3 rfl;have ZAO:p.length≤32:=ZwE;have pg:Xc.f b (pos b B2) 1=_:=Z3m o2 (w:=1) (by omega) (by omega);have rg:ZN.f b (pos b B2) 1=_:=Z7J o2 (w:=1) (by omega) (by omega);by_cases hB2:B2.length<1
 ·have e:pN 1 B2=none:=by unfold pN;rw[if_pos hB2]
  rw[e]at pg rg;refine⟨(Zm,10),Zf ?_,Zf ?_,by simp⟩
  ·dsimp only[ZQ.F];rw[if_neg h2,g1];simp only[bS];rw[if_neg (by simp;omega),if_neg (by simp),q1];simp only[bS];rw[if_neg (by simp),pg];simp only[bS];rw[if_neg (by simp),if_pos (by simp)];rfl
  ·dsimp only[ZX.F];rw[if_neg h2,g2];simp only[bS];rw[if_neg (by simp),if_neg hg4,q2];simp only[bS];rw[if_neg (by simp),rg];simp only[bS];rw[if_pos (by simp)]
 rw[JU hB2]at pg rg;have hb0:=Z1f _ (J3 o2.bb 1);have o3:=o2.UC 1;generalize num (B2.take 1)=n at pg rg hb0
 generalize B2.drop 1=B3 at pg rg o3
 dsimp only at pg rg;by_cases hn:n>16
 ·refine⟨(Zm,80),Zf ?_,Zf ?_,by simp⟩
  ·dsimp only[ZQ.F];rw[if_neg h2,g1];simp only[bS];rw[if_neg (by simp;omega),if_neg (by simp),q1];simp only[bS];rw[if_neg (by simp),pg];simp only[bS];rw[if_pos (by simp;omega)];rfl
  ·dsimp only[ZX.F];rw[if_neg h2,g2];simp only[bS];rw[if_neg (by simp),if_neg hg4,q2];simp only[bS];rw[if_neg (by simp),rg];simp only[bS];rw[if_neg (by simp),if_pos hn]
 have go:∀(d:Nat) (l:List Zb) (B':List Int),On b B'→(l.length:Int)+d=n→Gm l →
     ∃r,Zw (ZQ.F b) (.l1 (g,pos b B1,0) (p,pos b B2,0) (n,pos b B3,0) (l.length:Int) 0 (pos b B') l)=some r∧Zw (ZX.F b) (.l1 (g,pos b B1,0) (p,pos b B2,0) (n,pos b B3,0) (pos b B') l)=some r∧(r.2=0→XK r.1∧Small r.1):=by
  intro d;induction d with
  |zero=>
   intro l B' o hd hg;have tg:Xc.f b (pos b B') 1=_:=Z3m o (w:=1) (by omega) (by omega);have ug:ZN.f b (pos b B') 1=_:=Z7J o (w:=1) (by omega) (by omega);have ol:=o.len;by_cases hB:B'.length<1
   ·have e:pN 1 B'=none:=by unfold pN;rw[if_pos hB]
    rw[e]at tg ug;refine⟨(Zm,10),Zf ?_,Zf ?_,by simp⟩
    ·dsimp only[ZQ.F];rw[if_neg (by simp;omega),if_neg (by simp),tg];simp only[bS];rw[if_neg (by simp),if_neg (by simp),if_pos (by simp)];rfl
    ·dsimp only[ZX.F];rw[if_neg (by omega),ug];simp only[bS];rw[if_pos (by simp)]
   rw[JU hB]at tg ug;have lb:=Z1f _ (J3 o.bb 1);have l1:(B'.take 1).length=1:=by rw[List.length_take];omega
   rw[l1]at lb;have hd1:(B'.drop 1).length=B'.length-1:=List.length_drop;have o4:=(o.UC 1).len;generalize num (B'.take 1)=z at tg ug lb
   generalize B'.drop 1=B4 at tg ug hd1 o4
   dsimp only at tg ug;have hp4:pos b B4=(b.length:Int)-(B4.length:Int):=rfl;by_cases hz:z<n∨z=255
   case neg=>
    refine⟨(Zm,80),Zf ?_,Zf ?_,by simp⟩
    ·dsimp only[ZQ.F];rw[if_neg (by simp;omega),if_neg (by simp),tg];simp only[bS];rw[if_pos (by simp;omega)];rfl
    ·dsimp only[ZX.F];rw[if_neg (by omega),ug];simp only[bS];rw[if_neg (by simp),if_pos (by simp;omega)]
   by_cases hend:B4.length=0
   case neg=>
    refine⟨(Zm,80),Zf ?_,Zf ?_,by simp⟩
    ·dsimp only[ZQ.F];rw[if_neg (by simp;omega),if_neg (by simp),tg];simp only[bS];rw[if_neg (by simp;omega),if_pos (by simp;omega)];rfl
    ·dsimp only[ZX.F];rw[if_neg (by omega),ug];simp only[bS];rw[if_neg (by simp),if_pos (by simp;omega)]
   have m:(300:Nat)≤maxLen:=by unfold maxLen;omega
   have hgm:g.length≤maxLen:=by omega
   have hpm:p.length≤maxLen:=by omega
   have hlm:l.length≤maxLen:=by omega
   have w2:∀k:Int,-1≤k→k<256→XK ⟨g,p,l,k⟩∧Small ⟨g,p,l,k⟩:=fun k k0 k1=>by
    have hk:(Lit.int .i64 k).wf=true:=Z2h (by omega) (by omega);have a1:g.length≤100:=by omega
    have a2:p.length≤100:=by omega
    have a3:l.length≤40:=by omega
    exact⟨⟨⟨hgm,gw⟩,⟨hpm,pw⟩,⟨hlm,fun y hy=>(hg y hy).1⟩,hk⟩,⟨a1,a2,a3,fun x hx=>(hg x hx).2⟩⟩
   have pf:∀k,(if z=255 then(-1:Int)else z)=k→Zw (ZQ.F b) (.l1 (g,pos b B1,0) (p,pos b B2,0) (n,pos b B3,0) (l.length:Int) 0 (pos b B') l)=some (⟨g,p,l,k⟩,0)∧Zw (ZX.F b) (.l1 (g,pos b B1,0) (p,pos b B2,0) (n,pos b B3,0) (pos b B') l)=some (⟨g,p,l,k⟩,0):=by
    intro k hk;constructor
    ·refine Zf ?_;dsimp only[ZQ.F];rw[if_neg (by simp;omega),if_neg (by simp),tg];simp only[bS];rw[if_neg (by simp;omega),if_neg (by simp;omega),if_neg (by simp)];unfold ZQ.j2 ZQ.j3;rw[if_neg (by simp)];by_cases Zdz:z=255
     ·rw[if_pos Zdz]at hk ⊢;rw[hk]
     ·rw[if_neg Zdz]at hk ⊢;rw[hk]
    ·refine Zf ?_;dsimp only[ZX.F];rw[if_neg (by omega),ug];simp only[bS];rw[if_neg (by simp),if_neg (by simp;omega)];unfold ZX.j1;by_cases Zdz:z=255
     ·rw[if_pos Zdz]at hk ⊢;rw[hk]
     ·rw[if_neg Zdz]at hk ⊢;rw[hk]
   obtain⟨r1,r2⟩:=pf _ rfl;refine⟨_,r1,r2,fun _=>w2 _ ?_ ?_⟩
   ·split<;>omega
   ·split<;>omega
  |succ d ih=>
   intro l B' o hd hg;rcases Z8C o with ⟨e,he,c1,c2⟩|⟨x,q,c,t,e,c1,c2,c3,c4⟩
   ·refine⟨(Zm,e),(Ze (t :=.l1 (g,pos b B1,0) (p,pos b B2,0) (n,pos b B3,0) ((l.length:Int)+1) e 0 (l ++ [Mz])) ?_).trans (Zf ?_),Zf ?_,fun h=>absurd h he⟩
    ·dsimp only[ZQ.F];rw[if_pos (by simp;omega),c1];simp only[bS];rw[if_pos (by simp;omega),ZW (by omega) (by omega)]
    ·dsimp only[ZQ.F];rw[if_neg (by simp[he]),if_pos he];unfold ZQ.j2;rw[if_pos he]
    ·dsimp only[ZX.F];rw[if_pos (by omega),c2];simp only[bS];rw[if_pos he]
   ·by_cases he:e=0
    ·subst he;obtain⟨B5,o5,rfl,hgx⟩:=c4 rfl;obtain⟨r,r1,r2,r3⟩:=ih (l ++ [⟨x.Args,x.Zk,x.Result,x.Reads,x.Fuel,x.Stack,x.Heap,c⟩]) B5 o5 (by simp;omega) (fun y hy=>by
      rcases List.mem_append.1 hy with h|h
      ·exact hg y h
      ·exact hgx y h)
     refine⟨r,(Ze ?_).trans r1,(Ze ?_).trans r2,r3⟩
     ·dsimp only[ZQ.F];rw[if_pos (by simp;omega),c3];simp only[bS];rw[if_pos (by simp;omega),Zu l.length (by omega)];simp
     ·dsimp only[ZX.F];rw[if_pos (by omega),c1];simp only[bS];rw[if_neg (by simp),c2];simp only[bS];rw[if_neg (by simp),if_pos (by simp;omega)]
    ·refine⟨(Zm,e),(Ze (t :=.l1 (g,pos b B1,0) (p,pos b B2,0) (n,pos b B3,0) ((l.length:Int)+1) e t (l ++ [⟨x.Args,x.Zk,x.Result,x.Reads,x.Fuel,x.Stack,x.Heap,c⟩])) ?_).trans (Zf ?_),Zf ?_,fun h=>absurd h he⟩
     ·dsimp only[ZQ.F];rw[if_pos (by simp;omega),c3];simp only[bS];rw[if_pos (by simp;omega),ZW (by omega) (by omega)]
     ·dsimp only[ZQ.F];rw[if_neg (by simp[he]),if_pos he];unfold ZQ.j2;rw[if_pos he]
     ·dsimp only[ZX.F];rw[if_pos (by omega),c1];simp only[bS];rw[if_neg (by simp),c2];simp only[bS];rw[if_pos he]
 obtain⟨r,r1,r2,r3⟩:=go n.toNat [] B3 o3 (by simp;omega) (fun y hy=>by cases hy);refine⟨r,(Ze ?_).trans r1,(Ze ?_).trans r2,r3⟩
 ·dsimp only[ZQ.F];rw[if_neg h2,g1];simp only[bS];rw[if_neg (by simp;omega),if_neg (by simp),q1];simp only[bS];rw[if_neg (by simp),pg];simp only[bS];rw[if_neg (by simp;omega),if_neg (by simp)];rfl
 ·dsimp only[ZX.F];rw[if_neg h2,g2];simp only[bS];rw[if_neg (by simp),if_neg hg4,q2];simp only[bS];rw[if_neg (by simp),rg];simp only[bS];rw[if_neg (by simp),if_neg hn]
end YA
namespace YA
open Zz Y8 Xd XG
theorem ZoZ{y:Int}(h:(Lit.int .u8 y).wf=true):0≤y∧y<256:=by
 simp only[Lit.wf,IntKind.min,IntKind.max,IntKind.bits,IntKind.signed]at h
 first|(simp at h;omega)|omega
theorem Zia{b:List Int}(hbt:Byt b)(hbl:b.length≤3000):∃M L e,Z0A.f b=some (M,L,e)∧TJ.f b=some (M,L,e)∧Small M∧L.length≤40:=by
 obtain⟨⟨M,e⟩,p1,p2,p3⟩:=Zg2 hbt hbl;have S0:Small Zm:=⟨by simp,by simp,by simp,by simp⟩
 unfold Z0A.f TJ.f;rw[p1,p2];simp only[bS];by_cases he:e≠0
 ·rw[if_pos he,if_pos he];exact⟨Zm,[],e,rfl,rfl,S0,by simp⟩
 ·rw[if_neg he,if_neg he];obtain⟨hw,S⟩:=p3 (Classical.not_not.1 he);rw[Zju hw S,Zjy hw S];have hL:=Zg0 S;generalize Z3a M=a at hL
  obtain⟨L,f⟩:=a;simp only[bS];by_cases hf:f≠0
  ·rw[if_pos hf];exact⟨Zm,[],f,rfl,rfl,S0,by simp⟩
  ·rw[if_neg hf];exact⟨M,L,0,rfl,rfl,S,hL⟩
theorem Zib{b:List Int}(h:b.length≤maxLen∧∀y∈b,(Lit.int .u8 y).wf=true):Ww.f b=some true:=by
 unfold Ww.f;by_cases hl:(b.length:Int)>3000
 ·rw[if_pos hl]
 ·rw[if_neg hl,if_pos (by simp;omega)];obtain⟨M,L,e,h1,h2,S,hL⟩:=Zia (b:=b) (fun y hy=>ZoZ (h.2 y hy)) (by omega);rw[List.nil_append,h1];simp only[bS];rw[h2];simp only[bS];rw[if_pos trivial,ZdK S];simp only[bS];rw[if_pos trivial,ZfV (by omega)];simp only[bS];congr 1;simp
end YA
theorem verifyLoads_card:Rows.VerifyLoadsCardSaid:=verifyLoads.card fun x0 h=>YA.Zib h
#print axioms verifyLoads_card
end Go.Proofs.YtehjiiebjkkcmaaGreatDoor
