/- Words of this claim. -/
import Derived.Test.YtehjiiebjkkcmaaGreatDoorW1xVerifyLoads
set_option linter.unusedVariables false
set_option linter.unusedSimpArgs false
set_option linter.unusedSectionVars false
namespace Go.Q
def KA(v:Value)(lo hi:Nat):Value:=match v with
 | .slice a _ cap =>.slice (if cap=lo then a else a.map (·.add (lo*1))) (hi-lo) (cap-lo)
 | _=>v
theorem Z8M{g i:Nat}:(⟨g,0,none⟩:Addr).add i=⟨g,i,none⟩:=by
 simp only[Addr.add];by_cases h:i=0
 ·subst h;simp
 ·simp[h]
theorem Z3o{α:Type}{k:Kd α}(h1:k.sz=1){a:Hp}:∀{xs:List α} {cells:List Value} (i:Nat),Flat k a cells xs→Flat k a (cells.take i) (xs.take i)∧Flat k a (cells.drop i) (xs.drop i)
 | [],cells,i,h=>by
  obtain rfl:cells=[]:=h;simp[Flat]
 |x::xs,cells,0,h=>⟨rfl,by simpa using h⟩
 |x::xs,cells,i+1,⟨cs,rest,e,r,f⟩=>by
  have hl:=k.len _ _ _ r;rw[h1]at hl;obtain⟨c,rfl⟩:=List.length_eq_one_iff.1 hl;subst e;obtain⟨p,q⟩:=Z3o h1 i f;refine⟨?_,by simpa using q⟩;show Flat k a ([c]++rest.take i) (x::xs.take i);exact⟨[c],_,rfl,r,p⟩
section
variable{P:Program}{n:Fr}{ρ:Option Nat}{σ:List (Nat×Value)}{w0:World}{hA hV:Hp}{ps:List HP}{os:List HO}{L l:List Oper}{Q:Cont}{d:Nat}{dd:Option Nat}{t e tr:TypeId}{x y:Operand}{pos:String}{af:Array Edge}{g:Option (Nat×Bool)}{v u:Value}{α:Type}{k:Kd α}{xs ys:List α}
theorem Val.sliceFrom(see:YG w0 hA hV)(i:Nat){T:TypeId}(hi:os[i]?=some (Zg k T v xs))(hu:P.underlying t=some (.slice e))(hs:(P.info? e).map (·.size)=some 1){ik:IntKind}{z:Int}(hx:ev σ x=some v)(hy:ev σ y=some (.int ik z))(h0:0≤z∧z≤xs.length) :
    Val P n σ (St w0 hA hV ps os) ⟨dd,.slice t x (some y) none none,tr,pos,af,g⟩ (KA v z.toNat xs.length):=by
 intro a w ha hw;obtain⟨cells,f,hl,hr⟩:=St.own i hi see.sub see.dj hw;have hle:∃b c,v=.slice b xs.length c∧xs.length≤c:=by
  rcases hr with ⟨rfl,hn⟩|⟨g',cap,cur,rfl,-,hle,-⟩
  ·exact⟨_,_,by rw[hn],by omega⟩
  ·exact⟨_,_,rfl,hle⟩
 obtain⟨b,c,rfl,hc⟩:=hle;cases hq:P.info? e with
 |none=>simp[hq]at hs
 |some j=>
  have hj:j.size=1:=by simpa[hq]using hs
  have hb:=run_sliceBound (P:=P) (w:=w) ik z xs.length .sliceB h0.1 h0.2;simp[execOp,ha.eval hx,ha.eval hy,Instr.sliceAt,Instr.slice,run_underlying hu,Instr.sliceBounds,hb,sizeOf,typeInfo,hq,hj,KA]
theorem Val.sliceTo(see:YG w0 hA hV)(i:Nat){T:TypeId}(hi:os[i]?=some (Zg k T v xs))(hu:P.underlying t=some (.slice e))(hs:(P.info? e).map (·.size)=some 1){ik:IntKind}{z:Int}(hx:ev σ x=some v)(hy:ev σ y=some (.int ik z))(h0:0≤z∧z≤xs.length) :
    Val P n σ (St w0 hA hV ps os) ⟨dd,.slice t x none (some y) none,tr,pos,af,g⟩ (KA v 0 z.toNat):=by
 intro a w ha hw;obtain⟨cells,f,hl,hr⟩:=St.own i hi see.sub see.dj hw;have hle:∃b c,v=.slice b xs.length c∧xs.length≤c:=by
  rcases hr with ⟨rfl,hn⟩|⟨g',cap,cur,rfl,-,hle,-⟩
  ·exact⟨_,_,by rw[hn],by omega⟩
  ·exact⟨_,_,rfl,hle⟩
 obtain⟨b,c,rfl,hc⟩:=hle;cases hq:P.info? e with
 |none=>simp[hq]at hs
 |some j=>
  have hj:j.size=1:=by simpa[hq]using hs
  have hb:=run_sliceBound (P:=P) (w:=w) ik z c .sliceAcap h0.1 (by omega);simp[execOp,ha.eval hx,ha.eval hy,Instr.sliceAt,Instr.slice,run_underlying hu,Instr.sliceBounds,hb,sizeOf,typeInfo,hq,hj,KA]
theorem ZaQ{w:World}{a h:Hp}(sa:Sub a (hp w))(sh:Sub h (hp w))(hu:P.underlying t=some (.slice e))(hs:(P.info? e).map (·.size)=some 1)(h1:k.sz=1)
    {cells:List Value} (hf:Flat k a cells xs) (hr:Row e k.sz h v xs.length cells) (o:Nat) (ho:o≤xs.length) {A:Option Addr} {m cap:Nat} {news:List Value} (hA0:A=none→m=0∧cap=0) (hnl:news.length=min m (xs.length-o)) (hc:∀ad,A=some ad→∀j c,news[j]?=some c→w.cell? (ad.add j)=some c)
    {zs:List α} (hz:Flat k a news zs) {ty:TypeId} :
    ∃w' h',(Builtin.copy_ #[t,t] ty #[KA v o xs.length,.slice A m cap]).run P w=.ok (goInt news.length) w'∧Met w w'∧(∀b,b<w.heap.size→some b≠v.ownBlock→w'.heap[b]?=w.heap[b]?) ∧
     (Zg k e v (xs.take o++zs++xs.drop (o+zs.length))).p a h'∧Sub h' (hp w')∧∀b,h' b≠none→h b≠none∨w.heap.size≤b:=by
 have hzl:news.length=zs.length:=by have:=hz.len;rwa [h1,Nat.mul_one]at this
 cases hq:P.info? e with
 |none=>simp[hq]at hs
 |some j=>
  have hj:j.size=1:=by simpa[hq]using hs
  have keep:news=[]→(xs.take o++zs++xs.drop (o+zs.length))=xs:=fun e0=>by
   have:zs=[]:=List.eq_nil_of_length_eq_zero (by rw[←hzl,e0];rfl);subst this;simp
  obtain⟨hl,⟨rfl,hn⟩|⟨gg,cp,cur,rfl,hg,hle,hcm,hcs,ht⟩⟩:=id hr
  ·have e0:news=[]:=List.eq_nil_of_length_eq_zero (by rw[hnl];omega);refine⟨w,h,?_,Met.refl w,fun _ _ _=>rfl,by rw[keep e0];exact⟨cells,hf,hr⟩,sh,fun b hb =>.inl hb⟩;subst e0;have e1:xs.length-o=0:=by omega
   cases A with
   |none=>simp[Builtin.copy_,KA,run_underlying hu,Builtin.lenOf,Builtin.firstCells,sizeOf,typeInfo,hq,storeCells,hn,e1]
   |some ad=>simp[Builtin.copy_,KA,run_underlying hu,Builtin.lenOf,Builtin.firstCells,sizeOf,typeInfo,hq,storeCells,hn,e1,loadCells,loadCellsFrom]
  ·have hg':=sh _ _ hg;cases A with
   |none=>
    obtain⟨rfl,rfl⟩:=hA0 rfl;have e0:news=[]:=List.eq_nil_of_length_eq_zero (by rw[hnl];simp);refine⟨w,h,?_,Met.refl w,fun _ _ _=>rfl,by rw[keep e0];exact⟨cells,hf,hr⟩,sh,fun b hb =>.inl hb⟩;subst e0;by_cases hc0:cp=o
    ·simp[Builtin.copy_,KA,run_underlying hu,Builtin.lenOf,Builtin.firstCells,sizeOf,typeInfo,hq,storeCells,hc0]
    ·simp[Builtin.copy_,KA,run_underlying hu,Builtin.lenOf,Builtin.firstCells,sizeOf,typeInfo,hq,storeCells,hc0]
   |some ad=>
    have hcl:cells.length=xs.length:=by rw[hl,h1,Nat.mul_one]
    have hcz:cur.size=cp:=by rw[hcs,h1,Nat.mul_one]
    rw[h1,Nat.mul_one]at ht;have key:∀o',(o'=o∨news=[])→o'≤cp-news.length →  (Builtin.copy_ #[t,t] ty #[.slice (some ⟨gg,o',none⟩) (xs.length-o) (cp-o),.slice (some ad) m cap]).run P w =
        .ok (goInt news.length) (w.setRow gg (cur.toList.take o++news++cur.toList.drop (o+news.length)).toArray):=fun o' h' hle'=>by
     have hr2:=run_copy_row P w t t ty e gg o' (xs.length-o) (cp-o) ad m cap cur e news hu hs hg' hnl (fun j v hj=>hc ad rfl j v hj) (by
      rcases h' with h'|h'
      ·omega
      ·rw[h']at hle' ⊢;simp at hle' ⊢;omega) (Z7j hz.one)
     rw[hr2];rcases h' with rfl|rfl
     ·rfl
     ·simp
    have hrun:(Builtin.copy_ #[t,t] ty #[KA (.slice (some ⟨gg,0,none⟩) xs.length cp) o xs.length,.slice (some ad) m cap]).run P w =
        .ok (goInt news.length) (w.setRow gg (cur.toList.take o++news++cur.toList.drop (o+news.length)).toArray):=by
     simp only[KA];by_cases hc0:cp=o
     ·rw[if_pos hc0];have e0:news=[]:=List.eq_nil_of_length_eq_zero (by rw[hnl];omega);exact key 0 (.inr e0) (Nat.zero_le _)
     ·rw[if_neg hc0];simp only[Option.map_some,Nat.mul_one,Z8M];exact key o (.inl rfl) (by omega)
    have hlen:(xs.take o++zs++xs.drop (o+zs.length)).length=xs.length:=by
     simp only[List.length_append,List.length_take,List.length_drop];omega
    have hrow:Row e k.sz (fun b=>if b=gg then some (.cells (cur.toList.take o++news++cur.toList.drop (o+news.length)).toArray e (0,0))else none) (.slice (some ⟨gg,0,none⟩) xs.length cp) (xs.take o++zs++xs.drop (o+zs.length)).length (cells.take o++news++cells.drop (o+news.length)):=by
     refine⟨?_,.inr ⟨gg,cp,_,by rw[hlen],if_pos rfl,by rw[hlen];exact hle,hcm,?_,?_⟩⟩
     ·rw[hlen,h1];simp only[List.length_append,List.length_take,List.length_drop];omega
     ·simp only[List.size_toArray,List.length_append,List.length_take,List.length_drop,Array.length_toList];rw[h1];omega
     ·rw[hlen,h1,Nat.mul_one,←ht];apply List.ext_getElem?;intro q;simp only[List.getElem?_take,List.getElem?_append,List.length_take,List.length_append,Array.length_toList,List.getElem?_drop];have m1:min o cur.size=o:=by omega
      have m2:min o (min xs.length cur.size)=o:=by omega
      rw[m1,m2];by_cases q1:q<xs.length
      ·rw[if_pos q1];by_cases q2:q<o
       ·have q3:q<o+news.length:=by omega
        simp[q2,q3,q1]
       ·by_cases q3:q<o+news.length
        ·simp[q2,q3]
        ·simp only[q2,q3,if_false];rw[if_pos (by omega)]
      ·rw[if_neg q1];by_cases q2:q<o
       ·omega
       ·have q3:¬q<o+news.length:=by omega
        simp only[q2,q3,if_false];rw[if_neg (by omega)]
    refine⟨_,_,hrun,⟨rfl,rfl,rfl,by simp⟩,fun b _ hb=>setRow_other w gg b _ (fun e=>hb (by simp[Value.ownBlock,e])),⟨_,?_,hrow⟩,?_,?_⟩
    ·obtain⟨p1,p2⟩:=Z3o h1 o hf;obtain⟨q1,q2⟩:=Z3o h1 (o+zs.length) hf;rw[hzl];exact(p1.append hz).append q2
    ·intro b u hb;dsimp only at hb;by_cases hbg:b=gg
     ·subst hbg;rw[if_pos rfl]at hb;show(w.setRow b _).heap[b]?=_;rw[setRow_heap w b cur _ e _ hg'];exact hb
     ·rw[if_neg hbg]at hb;cases hb
    ·intro b hb;by_cases hbg:b=gg
     ·subst hbg;exact .inl (by rw[hg];exact fun h=>by cases h)
     ·rw[if_neg hbg]at hb;exact absurd rfl hb
theorem SP.Zgg(see:YG w0 hA hV)(i:Nat)(hi:os[i]?=some (Zg k e v xs))(j:Nat)(hj:ps[j]?=some (Z9 k u ys))(hu:P.underlying t=some (.slice e))(hs:(P.info? e).map (·.size)=some 1)(h1:k.sz=1)
    (hg:gd L σ g=some true) (hn:Nat.blt d n.n=true) (hx:ev σ x=some v) (hy:ev σ y=some u)
    (h:SP P n ρ ((d,.int .i64 (min ys.length xs.length:Nat))::σ) (St w0 hA hV ps (os.set i (Zg k e v (ys.take xs.length++xs.drop ys.length)))) L l Q):SP P n ρ σ (St w0 hA hV ps os) L (⟨some d,.call ⟨.builtin .copy,#[x,y],#[t,t]⟩,tr,pos,af,g⟩::l) Q:=by
 refine SP.op (fun _:Unit =>.int .i64 (min ys.length xs.length:Nat)) (fun _=>St w0 hA hV ps (os.set i (Zg k e v (ys.take xs.length++xs.drop ys.length)))) hg rfl hn (fun a w ha hw=>?_) (fun _=>h);obtain⟨hP,hh,⟨cells,f,r⟩,sP,s1,ap,back⟩:=hw.at i hi see
 obtain⟨A,cap,rfl,hA0,news,hf2,hc⟩:=(ap.get j hj).cells sP;have hl2:=hf2.len;rw[h1,Nat.mul_one]at hl2;obtain⟨z1,z2⟩:=Z3o h1 xs.length hf2;have hv0:∃b c,v=.slice b xs.length c∧(KA v 0 xs.length=v):=by
  rcases r.2 with ⟨rfl,hn⟩|⟨g',cap,cur,rfl,-⟩
  ·exact⟨_,_,by rw[hn],by simp[KA,hn]⟩
  ·refine⟨_,_,rfl,?_⟩;simp only[KA,Nat.sub_zero];by_cases hc:cap=0
   ·simp[hc]
   ·simp only[hc,if_false,Option.map_some,Nat.zero_mul,Z8M]
 have hle:A=none→ys.length=0:=fun e=>by rw[hA0 e];rfl
 have ZtM:A=none→ys.length=0∧cap=0:=fun e=>by
  obtain⟨A',cap',e',-,z,-⟩:=ap.get j hj;simp only[Value.slice.injEq]at e';obtain⟨rfl,-,rfl⟩:=e';obtain⟨rfl,rfl⟩:=z e;exact⟨rfl,rfl⟩
 obtain⟨w',h',q1,q2,q3,q4,q5,q6⟩:=ZaQ (P:=P) (ty:=tr) sP s1 hu hs h1 f r 0 (Nat.zero_le _) (A:=A) (m:=ys.length) (cap:=cap) (news:=news.take xs.length) ZtM (by rw[List.length_take,hl2];simp[Nat.min_comm]) (fun ad e j c hj=>hc ad e j c (by
  rw[List.getElem?_take]at hj;split at hj
  ·exact hj
  ·cases hj)) z1
 obtain⟨b0,c0,rfl,hv1⟩:=hv0;rw[hv1]at q1;have el:(news.take xs.length).length=min ys.length xs.length:=by rw[List.length_take,hl2,Nat.min_comm]
 rw[el]at q1;have e3:xs.take 0++ys.take xs.length++xs.drop (0+(ys.take xs.length).length)=ys.take xs.length++xs.drop ys.length:=by
  rw[List.take_zero,List.nil_append,Nat.zero_add,List.length_take];by_cases hh:ys.length≤xs.length
  ·rw[Nat.min_eq_right hh]
  ·rw[Nat.min_eq_left (by omega),List.drop_eq_nil_of_le (Nat.le_refl _),List.drop_eq_nil_of_le (by omega)]
 rw[e3]at q4;refine⟨(),w',by simp[execOp,resolve,invoke,builtin,ha.eval hx,ha.eval hy,q1,goInt],back w' _ h' q2 (fun b hb hn=>q3 b hb fun e=>?_) q4 q5 q6⟩;exact r.block b e.symm hn
theorem SP.Zc5(see:YG w0 hA hV)(i:Nat)(hi:os[i]?=some (Zg k e v xs))(hu:P.underlying t=some (.slice e))(hs:(P.info? e).map (·.size)=some 1)(h1:k.sz=1){o:Nat}(ho:o≤xs.length)
    (hg:gd L σ g=some true) (hn:Nat.blt d n.n=true) (hx:ev σ x=some (KA v o xs.length)) (hy:ev σ y=some (KA v 0 o))
    (h:SP P n ρ ((d,.int .i64 (min o (xs.length-o):Nat))::σ) (St w0 hA hV ps (os.set i (Zg k e v (xs.take o++xs.take (min o (xs.length-o))++xs.drop (o+min o (xs.length-o)))))) L l Q):SP P n ρ σ (St w0 hA hV ps os) L (⟨some d,.call ⟨.builtin .copy,#[x,y],#[t,t]⟩,tr,pos,af,g⟩::l) Q:=by
 refine SP.op (fun _:Unit =>.int .i64 (min o (xs.length-o):Nat)) (fun _=>St w0 hA hV ps (os.set i (Zg k e v (xs.take o++xs.take (min o (xs.length-o))++xs.drop (o+min o (xs.length-o)))))) hg rfl hn (fun a w ha hw=>?_) (fun _=>h);obtain⟨hP,hh,⟨cells,f,r⟩,sP,s1,ap,back⟩:=hw.at i hi see
 have hcl:cells.length=xs.length:=by rw[r.1,h1,Nat.mul_one]
 obtain⟨z1,z2⟩:=Z3o h1 (min o (xs.length-o)) f;have hp:∃A cap,KA v 0 o=.slice A o cap∧(A=none→o=0∧cap=0)∧∀ad,A=some ad→∀j c,cells[j]?=some c→w.cell? (ad.add j)=some c:=by
  obtain⟨hl,⟨rfl,hn⟩|⟨gg,cp,cur,rfl,hg',hle,hcm,hcs,ht⟩⟩:=id r
  ·exact⟨none,0,by simp[KA],fun _=>⟨by omega,rfl⟩,fun ad e=>by cases e⟩
  ·refine⟨some ⟨gg,0,none⟩,cp,?_,(fun e9=>by cases e9),fun ad e9 j c hj=>?_⟩
   ·simp only[KA,Nat.sub_zero];by_cases hc:cp=0
    ·simp[hc]
    ·simp only[hc,if_false,Option.map_some,Nat.zero_mul,Z8M]
   ·obtain rfl:(⟨gg,0,none⟩:Addr)=ad:=by simpa using e9
    rw[Z8M];have h2:=s1 _ _ hg';rw[←ht]at hj;simp only[World.cell?];have h3:w.heap[gg]?=some (.cells cur e (0,0)):=h2;rw[h3];have h4:=List.getElem?_take (l:=cur.toList) (i:=xs.length*k.sz) (j:=j);rw[h4]at hj;split at hj
    ·simpa using hj
    ·cases hj
 obtain⟨A,cap,ep,hA0,hc⟩:=hp;obtain⟨w',h',q1,q2,q3,q4,q5,q6⟩:=ZaQ (P:=P) (ty:=tr) sP s1 hu hs h1 f r o ho (A:=A) (m:=o) (cap:=cap) (news:=cells.take (min o (xs.length-o))) hA0 (by rw[List.length_take,hcl];omega) (fun ad e j c hj=>hc ad e j c (by
  rw[List.getElem?_take]at hj;split at hj
  ·exact hj
  ·cases hj)) z1
 rw[←ep]at q1;have el:(cells.take (min o (xs.length-o))).length=min o (xs.length-o):=by rw[List.length_take,hcl];omega
 have el2:(xs.take (min o (xs.length-o))).length=min o (xs.length-o):=by rw[List.length_take];omega
 rw[el]at q1;rw[el2]at q4;refine⟨(),w',by simp[execOp,resolve,invoke,builtin,ha.eval hx,ha.eval hy,q1,goInt],back w' _ h' q2 (fun b hb hn=>q3 b hb fun e=>?_) q4 q5 q6⟩;exact r.block b e.symm hn
theorem ZjJ{b:Nat}{o:Obj}:bk b o b=some o:=by simp[bk]
theorem Zbl{α:Type}{k:Kd α}(h1:k.sz=1){a:Hp}{c:Value}{z:α}(hz:k.rd a [c] z)(m:Nat):(madeCells #[c] (m*1)).size=m∧Flat k a (madeCells #[c] (m*1)).toList (List.replicate m z):=by
 have e:(madeCells #[c] (m*1)).toList=List.replicate m c:=by
  apply List.ext_getElem?;intro i;by_cases h:i<m
  ·simp[madeCells,h,Nat.mod_one]
  ·simp[madeCells,h]
 refine⟨by rw[←Array.length_toList,e];simp,?_⟩;rw[e];clear e;induction m with
 |zero=>rfl
 |succ m ih=>exact⟨[c],List.replicate m c,rfl,hz,ih⟩
theorem SP.ZeQ{c:Value}{z:α}{bytes:Nat}{kk:Int}{kl:IntKind}(hu:P.underlying t=some (.slice e))(hi:(P.info? e).map (fun i=>((i.zero.map fun z=>z.cells.toList),i.size,i.bytes))=some (some [c],k.sz,bytes))(h1:k.sz=1)(hz:∀a,k.rd a [c] z)(hg:gd L σ g=some true)(hn:Nat.blt d n.n=true)
    (hx:ev σ x=some (.int kl kk)) (hy:ev σ y=some (.int kl kk)) (hb:(0:Int)≤kk∧(bytes:Int)*kk≤281474976710656∧(kk:Int)≤9223372036854775807)
    (h:∀v,SP P n ρ ((d,v)::σ) (St w0 hA hV ps (Zg k e v (List.replicate kk.toNat z)::os)) L l Q):SP P n ρ σ (St w0 hA hV ps os) L (⟨some d,.makeSlice t x y,tr,pos,af,g⟩::l) Q:=by
 obtain⟨i,zz,i1,i2,i3,i4,i5⟩:=Z47 hi;refine SP.op (fun v:Value=>v) (fun v=>St w0 hA hV ps (Zg k e v (List.replicate kk.toNat z)::os)) hg rfl hn (fun a w ha hw=>⟨.slice (some ⟨w.heap.size,0,none⟩) kk.toNat kk.toNat,_,?_,hw.Z6l (.cells (madeCells zz.cells (kk.toNat*i.size)) e) fun b hb'=>?_⟩) h
 ·have:=run_make (P:=P) w t e i zz hu i1 i2 kl kl kk kk hb.1 (Int.le_refl _) (by rw[i5];exact hb.2.1) hb.2.2;simp[execOp,ha.eval hx,ha.eval hy,this]
 ·have e1:zz.cells = #[c]:=i3;have e2:i.size=1:=by rw[i4,h1]
  rw[e1,e2];obtain⟨q1,q2⟩:=Zbl h1 (hz b) kk.toNat;refine⟨_,q2,?_,.inr ⟨w.heap.size,kk.toNat,_,?_,ZjJ,?_,?_,?_,?_⟩⟩
  ·rw[Array.length_toList,q1,List.length_replicate,h1,Nat.mul_one]
  ·rw[List.length_replicate]
  ·rw[List.length_replicate];exact Nat.le_refl _
  ·simp only[maxLen];omega
  ·rw[q1,h1,Nat.mul_one]
  ·rw[List.length_replicate,h1];exact List.take_of_length_le (by rw[Array.length_toList,q1,Nat.mul_one];exact Nat.le_refl _)
end
section
variable{P:Program}{n:Fr}{ρ:Option Nat}{σ:List (Nat×Value)}{A:World→Prop}{L:List Oper}{Q:Cont}{T:Nat→Bool}{listed:Array Bool}
theorem Zc6{ops:Array Oper}:∀(fuel:Nat) (listed:Array Bool) (a:Act) (w:World),wpAnyIn (FF ρ) 0 P .any ops Q fuel listed a w→wpT P ρ ops Q T (fun _=>True) fuel listed a w
 | 0,_,_,_,h=>h
 |fuel+1,listed,_,_,h=>⟨h.1,fun i hi=>wpOpIn_mono (fun a' w' h'=>⟨fun _=>trivial,by
     cases hT:T i with
     |true=>exact Zc6 fuel _ a' w' h'
     |false=>exact h'⟩) (h.2 i hi)⟩
theorem DT.free{fuel:Nat}(h:DA P n ρ σ A L Q fuel listed):DT P n ρ σ A L Q T (fun _=>True) fuel listed:=fun a w ha hw=>Zc6 _ _ _ _ (h a w ha hw)
end
section
variable{P:Program}{n:Fr}{σ:List (Nat×Value)}{A:World→Prop}{dd:Option Nat}{t e tr:TypeId}{x y:Operand}{pos:String}{af:Array Edge}{g:Option (Nat×Bool)}{v p p':Value}{α:Type}{k:Kd α}{xs:List α}{x0:α}{m m':Nat}
def IxC(v:Value)(j:Int)(m:Nat)(p:Value):Prop:=PtC v m p∧∃len cap a,v=.slice (some a) len cap∧0≤j∧j<(len:Nat)∧p=.pointer (some (a.add m))
theorem ixC{w:World}{j:Int}(how:(Zg k e v xs).p (hp w) (hp w))(h0:0≤j)(hj:xs[j.toNat]?=some x0):∃p,IxC v j (j.toNat*k.sz) p:=by
 have hlt:=Vp hj;obtain⟨cells,f,hl,⟨rfl,hn⟩|⟨gg,cap,cur,rfl,-⟩⟩:=how
 ·omega
 ·refine⟨.pointer (some ⟨gg,j.toNat*k.sz,none⟩),⟨gg,_,_,rfl,rfl⟩,_,_,_,rfl,h0,by omega,?_⟩;have:(⟨gg,0,none⟩:Addr).add (j.toNat*k.sz)=⟨gg,j.toNat*k.sz,none⟩:=by unfold Addr.add;split<;>simp_all
  rw[this]
theorem Val.Z7o{s:Nat}{ik:IntKind}{j:Int}(h:IxC v j (j.toNat*s) p)(hu:P.underlying t=some (.slice e))(hs:(P.info? e).map (·.size)=some s)(hx:ev σ x=some v)(hy:ev σ y=some (.int ik j)) :
    Val P n σ A ⟨dd,.indexAddr t x y,tr,pos,af,g⟩ p:=fun a w ha _=>by
 obtain⟨-,len,cap,ad,rfl,h0,hl,rfl⟩:=h;simp[execOp,ha.eval hx,ha.eval hy,run_indexAt hu hs h0 hl]
theorem PtC.more(h:PtC v m p)(o:Nat):∃p',PtC v (m+o) p':=by
 obtain⟨b,len,cap,e,rfl⟩:=h;exact⟨_,b,len,cap,e,rfl⟩
theorem Val.ZlJ{s f:Nat}{fs:Array Field}{fd:Field}(hp:PtC v m p)(hp':PtC v m' p')(hu:P.underlying t=some (.struct fs))(hf:fs[f]?=some fd)(hm:m'=m+fd.offset)(hs:(P.info? fd.type).map (·.size)=some (s+1))(hx:ev σ x=some p) :
    Val P n σ A ⟨dd,.fieldAddr t x f,tr,pos,af,g⟩ p':=by
 obtain⟨b,len,cap,e1,rfl⟩:=id hp;obtain⟨b',len',cap',e2,rfl⟩:=hp';rw[e1]at e2;simp only[Value.slice.injEq,Option.some.injEq,Addr.mk.injEq,and_true]at e2;obtain⟨rfl,-⟩:=e2;subst hm;intro a w ha _;have hadd:(⟨b,m,none⟩:Addr).add fd.offset=⟨b,m+fd.offset,none⟩:=by unfold Addr.add;split<;>simp_all
 simp[execOp,ha.eval hx,Z0t hu hf hs,hadd]
end
theorem Zg.flip{α:Type}{k:Kd α}{T:TypeId}{v:Value}{xs:List α}{a a2 b:Hp}(hk:∀a a2 cs x,k.rd a cs x→k.rd a2 cs x)(h:(Zg k T v xs).p a b):(Zg k T v xs).p a2 b:=by
 obtain⟨cells,f,r⟩:=h;refine⟨cells,?_,r⟩;clear r;induction xs generalizing cells with
 |nil=>exact f
 |cons x xs ih=>obtain⟨cs,rest,e,q,f⟩:=f;exact⟨cs,rest,e,hk _ _ _ _ q,ih _ f⟩
theorem Sep.Z5E{a a2 b:Hp}(h:Sep a [] b):Sep a2 [] b:=trivial
theorem Sep.Z3U{x:HO}{l:List HO}{a a2:Hp}(hx:∀b,x.p a b→x.p a2 b)(hr:∀b,Sep a l b→Sep a2 l b){b:Hp}:Sep a (x::l) b→Sep a2 (x::l) b:=
 fun⟨h1,h2,d,s1,s2,p,q⟩=>⟨h1,h2,d,s1,s2,hx _ p,hr _ q⟩
end Go.Q
namespace Go.Q
mutual
def Z0N{H:Type}:DataW H→Option (List Value)
 | .lit (.int k n)=>some [.int k n]
 | .lit (.bool b)=>some [.bool b]
 | .agg ps=>Jp ps
 | _=>none
def Jp{H:Type}:List (DataW H)→Option (List Value)
 | []=>some []
 |d::r=>(Z0N d).bind fun a=>(Jp r).map fun b=>a++b
end
def tiled(P:Program)(m:Nat):Nat→List Field→Bool
 |o,[]=>o==m
 |o,f::r=>f.offset==o&&tiled P m (o+P.cellsOf f.type) r
def Z3e(P:Program):Nat→TypeId→Bool
 | 0,_=>false
 |k+1,t=>match P.underlying t with
  |some (.int _)=>true
  |some .bool=>true
  |some (.struct fs)=>tiled P (P.cellsOf t) 0 fs.toList&&fs.toList.all fun f=>Z3e P k f.type
  |some (.array n e)=>P.cellsOf t==n*P.cellsOf e&&Z3e P k e
  | _=>false
section
variable{P:Program}{W:World}{H:Type}{enc:TypeId×Value→H}{base:Nat}{spare:Nat→Bool}{held:Bool}
theorem Z6s{m fuel k:Nat}{cs:List Value}(ih:∀(t:TypeId) (cs:List Value) (d:DataW H) (ps:List MemPlace) (vs:List Value),Z3e P k t=true→DataW.trod enc P W base spare held fuel t cs=some (d,ps)→Z0N d=some vs→cs=vs)(hl:cs.length=m) :
    ∀(fs:List Field) (o:Nat) (xs:List (DataW H×List MemPlace)) (vs:List Value),tiled P m o fs=true→(fs.all fun f=>Z3e P k f.type)=true→o≤m →
     (fs.mapM fun f=>DataW.trod enc P W base spare held fuel f.type ((cs.drop f.offset).take (P.cellsOf f.type)))=some xs→Jp (xs.map (·.1))=some vs→cs.drop o=vs
 | [],o,xs,vs,ht,_,_,hm,hp=>by
  simp at hm;subst hm;simp[Jp]at hp;subst hp;simp[tiled]at ht;exact List.drop_of_length_le (by omega)
 |f::fs,o,xs,vs,ht,ha,ho,hm,hp=>by
  simp only[tiled,Bool.and_eq_true,beq_iff_eq]at ht;simp only[List.all_cons,Bool.and_eq_true]at ha;simp only[List.mapM_cons,Option.bind_eq_bind,Option.pure_def]at hm;cases hz:DataW.trod enc P W base spare held fuel f.type ((cs.drop f.offset).take (P.cellsOf f.type))with
  |none=>simp[hz]at hm
  |some y=>
   cases hr:fs.mapM (fun f=>DataW.trod enc P W base spare held fuel f.type ((cs.drop f.offset).take (P.cellsOf f.type)))with
   |none=>simp[hz,hr]at hm
   |some ys=>
    simp[hz,hr]at hm;subst hm;simp only[List.map_cons,Jp]at hp;cases h1:Z0N y.1 with
    |none=>simp[h1]at hp
    |some a=>
     cases h2:Jp (ys.map (·.1))with
     |none=>simp[h1,h2]at hp
     |some b=>
      simp[h1,h2]at hp;subst hp;have e1:=ih _ _ y.1 y.2 a ha.1 (by rw[hz]) h1;have hle:o+P.cellsOf f.type≤m:=by
       have:∀(l:List Field) (q:Nat),tiled P m q l=true→q≤m:=by
        intro l;induction l with
        |nil=>intro q h;simp[tiled]at h;omega
        |cons g l il=>intro q h;simp[tiled]at h;have:=il _ h.2;omega
       exact this _ _ ht.2
      have e2:=Z6s ih hl fs (o+P.cellsOf f.type) ys b ht.2 ha.2 hle hr h2;rw[←e1,←e2,ht.1,←List.drop_drop,List.take_append_drop]
theorem Z7P{n c fuel k:Nat}{e:TypeId}{cs:List Value}(ih:∀(t:TypeId) (cs:List Value) (d:DataW H) (ps:List MemPlace) (vs:List Value),Z3e P k t=true→DataW.trod enc P W base spare held fuel t cs=some (d,ps)→Z0N d=some vs→cs=vs)(he:Z3e P k e=true)(hl:cs.length=n*P.cellsOf e) :
    ∀(xs:List (DataW H×List MemPlace)) (vs:List Value) (i:Nat),i+xs.length=n→(∀j,j<xs.length→DataW.trod enc P W base spare held fuel e ((cs.drop ((i+j)*P.cellsOf e)).take (P.cellsOf e))=xs[j]?)→Jp (xs.map (·.1))=some vs→cs.drop (i*P.cellsOf e)=vs
 | [],vs,i,hn,_,hp=>by
  simp[Jp]at hp;subst hp;simp at hn;subst hn;exact List.drop_of_length_le (by omega)
 |y::ys,vs,i,hn,hx,hp=>by
  simp only[List.map_cons,Jp]at hp;cases h1:Z0N y.1 with
  |none=>simp[h1]at hp
  |some a=>
   cases h2:Jp (ys.map (·.1))with
   |none=>simp[h1,h2]at hp
   |some b=>
    simp[h1,h2]at hp;subst hp;have z:=hx 0 (by simp);simp only[Nat.add_zero,List.getElem?_cons_zero]at z;have e1:=ih _ _ y.1 y.2 a he z h1;have e2:=Z7P (n:=n) (c:=c) ih he hl ys b (i+1) (by simp at hn;omega) (fun j hj=>by
     have:=hx (j+1) (by simp;omega);rw[List.getElem?_cons_succ]at this;rw[←this];congr 4;omega) h2
    rw[←e1,←e2,Nat.succ_mul,←List.drop_drop,List.take_append_drop]
theorem Z58:∀(k fuel:Nat) (t:TypeId) (cs:List Value) (d:DataW H) (ps:List MemPlace) (vs:List Value),Z3e P k t=true→DataW.trod enc P W base spare held fuel t cs=some (d,ps)→Z0N d=some vs→cs=vs
 | 0,_,_,_,_,_,_,hf,_,_=>by simp[Z3e]at hf
 |k+1,0,_,_,_,_,_,_,h,_=>by simp[DataW.trod]at h
 |k+1,fuel+1,t,cs,d,ps,vs,hf,h,hp=>by
  unfold Z3e at hf;split at hf
  ·rename_i ik hu
   obtain⟨n,rfl,e,-⟩:=DataW.trod_int hu h;simp at e;obtain⟨rfl,-⟩:=e;simp[Z0N]at hp;exact hp
  ·rename_i hu
   unfold DataW.trod at h;rw[hu]at h;split at h<;>first|(simp at *;done)|skip
   simp at h;obtain⟨rfl,-⟩:=h;simp[Z0N]at hp;exact hp
  ·rename_i fs hu
   simp only[Bool.and_eq_true]at hf;unfold DataW.trod at h;rw[hu]at h;simp only at h;split at h
   ·rename_i hl
    cases hm:(fs.toList.mapM fun f=>DataW.trod enc P W base spare held fuel f.type ((cs.drop f.offset).take (P.cellsOf f.type)))with
    |none=>rw[hm]at h;simp at h
    |some xs=>
     rw[hm]at h;simp at h;obtain⟨rfl,-⟩:=h;simp only[Z0N]at hp;exact Z6s (fun t cs d ps vs=>Z58 k fuel t cs d ps vs) hl fs.toList 0 xs vs hf.1 hf.2 (Nat.zero_le _) hm hp
   ·cases h
  ·rename_i n e hu
   simp only[Bool.and_eq_true,beq_iff_eq]at hf;obtain⟨xs,m,hm,hx,hl,hn,hq⟩:=DataW.trod_array hu h;obtain rfl:fuel=m:=by omega
   simp at hx;obtain⟨rfl,-⟩:=hx;simp only[Z0N]at hp;have:=Z7P (n:=n) (c:=0) (fun t cs d ps vs=>Z58 k fuel t cs d ps vs) hf.2 (by rw[hl,hf.1]) xs vs 0 (by omega) (fun j hj=>by rw[Nat.zero_add];exact hq j (by omega)) hp;simpa using this
  ·cases hf
theorem Zc7{n:String}{d:DataW Unit}:∀(l:List (String×DataW Unit)) (ps:List MemPlace),DataW.LaidVars P W l ps→(n,d)∈l →
    ∃g t cs fuel p,P.globalNamed n=some g∧(P.globals[g]?).map (·.type)=some t∧W.var? P n=some cs∧DataW.trod (fun _=>()) P W 0 (fun _=>true) false fuel t cs.toList=some (d,p)
 | [],_,_,hm=>by cases hm
 |(n',d')::r,ps,h,hm=>by
  obtain⟨g,t,cs,fuel,p,q,h1,h2,h3,h4,h5,-⟩:=h;rcases List.mem_cons.1 hm with e|e
  ·cases e;exact⟨g,t,cs,fuel,p,h1,h2,h3,h4⟩
  ·exact Zc7 r q h5 e
theorem Z8N{l:List (String×DataW Unit)}{n:String}{d:DataW Unit}{g:Nat}{t:TypeId}{k:Nat}{vs:List Value}(h:laidMetH P l W)(hh:(l.all fun x=>x.2.handleName?.isNone)=true)(hm:(n,d)∈l)
    (hg:P.globalNamed n=some g) (ht:(P.globals[g]?).map (·.type)=some t) (hf:Z3e P k t=true) (hpl:Z0N d=some vs):∃c T fr,hp W g=some (.cells c T fr)∧c.toList=vs:=by
 rw[MakeChecks.laidMetH_plain _ _ _ hh]at h;obtain⟨ps,hl,-⟩:=h;obtain⟨g',t',cs,fuel,p,h1,h2,h3,h4⟩:=Zc7 _ _ hl hm;obtain rfl:g'=g:=sI (h1.symm.trans hg);obtain rfl:t'=t:=sI (h2.symm.trans ht);have e:=Z58 k fuel t' cs.toList d p vs hf h4 hpl;unfold World.var? at h3;rw[h1]at h3;simp only[bS]at h3;split at h3
 ·rename_i c T fr hb
  cases h3;exact⟨cs,T,fr,hb,e⟩
 ·cases h3
theorem flat_get{α:Type}{z:Nat}{f:α→List Value}(hz:∀x,(f x).length=z):∀(xs:List α) (j:Nat) (x:α),xs[j]?=some x→∀(i:Nat) (u:Value),(f x)[i]?=some u→(xs.flatMap f)[j*z+i]?=some u
 | [],_,_,h,_,_,_=>by simp at h
 |y::xs,0,x,h,i,u,hu=>by
  simp at h;subst h;rw[Nat.zero_mul,Nat.zero_add,List.flatMap_cons,List.getElem?_append_left (by have:=Vp hu;exact this)];exact hu
 |y::xs,j+1,x,h,i,u,hu=>by
  have:=flat_get hz xs j x (by simpa using h) i u hu;rw[List.flatMap_cons,List.getElem?_append_right (by rw[hz,Nat.add_mul];omega),hz,show(j+1)*z+i-z=j*z+i by rw[Nat.add_mul];omega];exact this
theorem ZdX{α:Type}{kd:Kd α}{b:Nat}{xs:List α}(f:α→List Value)(hr:∀h x,kd.rd h (f x) x)(h:∃c T fr,hp W b=some (.cells c T fr)∧c.toList=xs.flatMap f):(Xi kd b xs).p (hp W):=by
 obtain⟨c,T,fr,e,q⟩:=h;refine⟨c,T,fr,e,fun j x hx=>⟨f x,hr _ _,fun i u hu=>?_⟩⟩;rw[←Array.getElem?_toList,q];exact flat_get (fun x=>kd.len _ _ _ (hr (hp W) x)) xs j x hx i u hu
end
end Go.Q
namespace Go.Q
open Go.Sort Go.Proofs
theorem Z6t{α:Type}[Inhabited α]{f:α→Value}(d:Array α)(j:Nat)(h:j<d.size):(flatK (fun x=>[f x]) 1 d)[j]! = f d[j]! := by
 rw[get_flatK _ _ _ _ (by omega),Nat.div_one,Nat.mod_one];rfl
theorem holdsOne{α:Type}[Inhabited α]{f:α→Value}{w:World}{b o:Nat}{d:Array α}:HoldsK (fun x=>[f x]) 1 w b o d↔Holds f w b o d.toList.toArray:=by
 unfold HoldsK Holds;rw[size_flatK,Nat.mul_one,Array.toArray_toList];constructor
 ·intro h j hj;have:=h j hj;rw[Z6t d j hj]at this;exact this
 ·intro h j hj;have:=h j hj;rw[Z6t d j hj];exact this
theorem ZlK{α:Type}[Inhabited α]{f:α→Value}{w:World}{b o:Nat}{d:Array α}:putRowK (fun x=>[f x]) 1 w b o d=putRow f w b o d:=by
 unfold putRowK putRow;congr 1;funext c;unfold putCells;rw[size_flatK,Nat.mul_one];apply Array.ext_getElem?;intro i;simp only[Array.getElem?_mapIdx];congr 1;funext x;split
 ·rename_i h;rw[Z6t d _ (by omega)];rfl
 ·rfl
theorem Z9L{α:Type}[Inhabited α]{f:α→Value}{w:World}{b o n:Nat}{d:Array α}{os:Array Obj}:sortWorldK (fun x=>[f x]) 1 w b o n d os=grow (putRow f (Sort.ahead w n) b o d) os:=by
 unfold sortWorldK;rw[ZlK]
theorem ZaR(w:World):grow w #[]=w:=by simp[grow]
theorem Z8O{α:Type}[DecidableEq α][Inhabited α](l:List α):(Lib.compact l).length≤l.length:=by
 unfold Lib.compact Lib.compactUpTo;rw[List.length_map];exact Nat.le_trans (List.length_filter_le _ _) (by simp)
def Z9M(v:Value)(m:Nat):Value:=match v with
 | .slice (some a) _ cap =>.slice (some a) m cap
 |v=>v
theorem Zg.shrink{α:Type}{k:Kd α}{T:TypeId}{v:Value}{L L':List α}{a b:Hp}(hp:L'.length≤L.length)(he:∃z,L=L'++z)(h:(Zg k T v L).p a b):(Zg k T (Z9M v L'.length) L').p a b:=by
 obtain⟨cells,f,hl,⟨rfl,hn⟩|⟨g,cap,cur,rfl,hg,l,hm,hs,ht⟩⟩:=h
 ·obtain rfl:=List.eq_nil_of_length_eq_zero hn;obtain rfl:=List.eq_nil_of_length_eq_zero (Nat.le_zero.1 hp);exact⟨cells,f,hl,.inl ⟨rfl,rfl⟩⟩
 ·obtain⟨z,rfl⟩:=he;have split:∀(xs:List α) (cells:List Value),Flat k a cells (xs++z)→Flat k a (cells.take (xs.length*k.sz)) xs:=by
   intro xs;induction xs with
   |nil=>intro cells _;simp[Flat]
   |cons x xs ih=>
    rintro cells ⟨cs,rest,rfl,r,f⟩;refine⟨cs,rest.take (xs.length*k.sz),?_,r,ih _ f⟩;rw[List.length_cons,Nat.add_mul,Nat.one_mul,Nat.add_comm,←k.len _ _ _ r,List.take_length_add_append]
  refine⟨_,split L' cells f,?_,.inr ⟨g,cap,cur,rfl,hg,by omega,hm,hs,?_⟩⟩
  ·rw[List.length_take,hl];refine Nat.min_eq_left (Nat.mul_le_mul_right _ hp)
  ·rw[←ht,List.take_take,Nat.min_eq_left (Nat.mul_le_mul_right _ hp)]
theorem Zg.Zkt{P:Program}{f:FuncId}{args:Array Value}{h1 hV:Hp}{w:World}{α:Type}{k:Kd α}{T:TypeId}{v:Value}{L L':List α}(hp:L'.length≤L.length)(he:∃z,L=L'++z)
    (h:XL P f args h1 hV w (fun r=>HO.Yr (r=Z9M v L'.length) (HO.Yk [Zg k T v L]))):XL P f args h1 hV w (fun r=>HO.ex fun u:Value=>HO.Yr (r=u) (HO.Yk [Zg k T u L'])):=by
 refine h.mono fun e w' ⟨r,q1,m,fr,hN,hO,n1,n2,d,t1,t2,q⟩=>⟨r,q1,m,fr,hN,hO,n1,n2,d,t1,t2,?_⟩
 obtain⟨er,g1,g2,d1,u1,u2,s1,s2⟩:=q;exact⟨_,er,g1,g2,d1,u1,u2,Zg.shrink hp he s1,s2⟩
end Go.Q
namespace Go.Q
def Zlx(m N:Nat):HP:=⟨fun _=>m=N,fun _ _ _ h=>h⟩
section
variable{P:Program}{n:Fr}{ρ:Option Nat}{σ:List (Nat×Value)}{w0 w:World}{hA hV:Hp}{ps:List HP}{os:List HO}{L l:List Oper}{Q:Cont}{d:Nat}{t tr T:TypeId}{x:Operand}{pos:String}{af:Array Edge}{g:Option (Nat×Bool)}{α:Type}{f:α→Value}{N b:Nat}{xs:List α}
end
end Go.Q
namespace Go.Q
def WT{α:Type}(k:Kd α)(b:Nat)(pre:List Value)(N:Nat)(xs:List α)(post:List Value)(T:TypeId):HO:=
 ⟨fun a h=>∃cells,Flat k a cells xs∧xs.length=N∧(Zl b (pre++(cells++post)) T).p a h,fun a a' b b' sa sb ⟨cells,f,e,r⟩=>⟨cells,f.mono sa,e,(Zl _ _ _).mono _ _ _ _ sa sb r⟩⟩
theorem Flat.rep{α:Type}{k:Kd α}{a:Hp}{z:List Value}{x:α}(h:k.rd a z x):∀N,Flat k a (List.replicate N z).flatten (List.replicate N x)
 | 0=>rfl
 |N+1=>⟨z,_,by rw[List.replicate_succ,List.flatten_cons],h,Flat.rep h N⟩
section
variable{P:Program}{n:Fr}{ρ:Option Nat}{σ:List (Nat×Value)}{w0 w:World}{hA hV:Hp}{ps:List HP}{os:List HO}{L l:List Oper}{Q:Cont}{d:Nat}{dd:Option Nat}{t tr e T:TypeId}{x y:Operand}{pos:String}{af:Array Edge}{g:Option (Nat×Bool)}{α β:Type}{k:Kd α}{N b m off:Nat}{xs:List α}{pre post:List Value}{j:Int}{ik:IntKind}{x0 z0:α}{u:Value}
theorem St.WT(i:Nat){cs:List Value}(hi:os[i]?=some (Zl b cs T))(xs:List α)(pre cells post:List Value)(hf:Flat k em cells xs)(hc:cs=pre++(cells++post))(hN:xs.length=N)(h:St w0 hA hV ps os w):St w0 hA hV ps (os.set i (WT k b pre N xs post T)) w:=
 h.Z8G i hi fun a c hp=>⟨cells,hf.mono (Sub.em _),hN,by rw[←hc];exact hp⟩
theorem WT.elem{a h:Hp}(hr:(Go.Q.WT k b pre N xs post T).p a h){i:Nat}(hx0:xs[i]?=some x0):xs.length=N∧∃all cs:List Value,h b=some (.cells all.toArray T (0,0))∧k.rd a cs x0∧∀q u,cs[q]?=some u→all[pre.length+i*k.sz+q]?=some u:=by
 obtain⟨cells,f,hN,hb⟩:=hr;obtain⟨cs,r,q⟩:=f.get hx0;refine⟨hN,_,cs,hb,r,fun q' u hq=>?_⟩;have h1:=q q' u hq;have h2:=Vp h1;rw[List.getElem?_append_right (by omega),show pre.length+i*k.sz+q'-pre.length=i*k.sz+q' by omega,List.getElem?_append_left h2];exact h1
theorem Val.Zc8(see:YG w0 hA hV)(i:Nat)(hi:os[i]?=some (WT k b pre N xs post T))(hu:P.underlying t=some (.array N e))(hs:(P.info? e).map (·.size)=some k.sz)(h0:0≤j)(hj:xs[j.toNat]?=some x0)
    (hx:ev σ x=some (.pointer (some ⟨b,m,none⟩))) (hy:ev σ y=some (.int ik j)) :
    Val P n σ (St w0 hA hV ps os) ⟨dd,.indexAddr t x y,tr,pos,af,g⟩ (.pointer (some ⟨b,m+j.toNat*k.sz,none⟩)):=fun a w ha hw=>by
 obtain⟨hl,-⟩:=WT.elem (St.own i hi see.sub see.dj hw) hj;have hlt:=Vp hj;have hb:0≤j∧j<(N:Int):=⟨h0,by omega⟩
 have hadd:(⟨b,m,none⟩:Addr).add (j.toNat*k.sz)=⟨b,m+j.toNat*k.sz,none⟩:=by unfold Addr.add;split<;>simp_all
 have hsz:(sizeOf e).run P w=.ok k.sz w:=by
  cases hq:P.info? e with
  |none=>simp[hq]at hs
  |some ii=>simp[hq]at hs;simp[sizeOf,typeInfo,hq,hs]
 simp[execOp,ha.eval hx,ha.eval hy,Instr.indexAt,run_underlying hu,Instr.sureAddr,asIntOf,hb,hsz,hadd]
theorem Val.Zc9{A:World→Prop}{s f o:Nat}{fs:Array Field}{fd:Field}(hu:P.underlying t=some (.struct fs))(hf:fs[f]?=some fd)(hs:(P.info? fd.type).map (·.size)=some (s+1))(hx:ev σ x=some (.pointer (some ⟨b,o,none⟩))) :
    Val P n σ A ⟨dd,.fieldAddr t x f,tr,pos,af,g⟩ (.pointer (some ⟨b,o+fd.offset,none⟩)):=fun a w ha _=>by
 have hadd:(⟨b,o,none⟩:Addr).add fd.offset=⟨b,o+fd.offset,none⟩:=by unfold Addr.add;split<;>simp_all
 simp[execOp,ha.eval hx,Z0t hu hf hs,hadd]
theorem Val.ZlL(see:YG w0 hA hV)(i:Nat)(off:Nat)(hi:os[i]?=some (WT k b pre N xs post T))(hj:xs[j.toNat]?=some x0)(hk:∀a cs,k.rd a cs x0→nv cs off=some u){X5:TypeDesc}(hu:P.underlying t=some X5)(hd:(match X5 with | .struct _ | .array _ _=>true | _=>false)=false)
    (hx:ev σ x=some (.pointer (some ⟨b,pre.length+j.toNat*k.sz+off,none⟩))):Val P n σ (St w0 hA hV ps os) ⟨dd,.load t x,tr,pos,af,g⟩ u:=fun a w ha hw=>by
 obtain⟨hl,all,cs,hb,r,q⟩:=WT.elem (St.own i hi see.sub see.dj hw) hj;have h1:=hk _ _ r;rw[Z5B]at h1;have h2:=q _ _ h1;have hcell:w.cell? ⟨b,pre.length+j.toNat*k.sz+off,none⟩=some u:=by
  have hb':w.heap[b]?=some (.cells all.toArray T (0,0)):=hb;simp[World.cell?,hb',h2]
 simp[execOp,ha.eval hx,Instr.loadAt,Instr.sureAddr,WQ hu hd hcell]
theorem SP.ZlM(see:YG w0 hA hV)(i:Nat)(off:Nat){k':Kd β}{ys:List β}(hi:os[i]?=some (WT k b pre N xs post T))(hj:xs[j.toNat]?=some x0)(hk:∀a cs,k.rd a cs x0→∃s,cs[off]?=some s∧Xb k' a s ys){e':TypeId}(hu:P.underlying t=some (.slice e'))
    (hx:ev σ x=some (.pointer (some ⟨b,pre.length+j.toNat*k.sz+off,none⟩))) (hg:gd L σ g=some true) (hn:Nat.blt d n.n=true)
    (h:∀s,SP P n ρ ((d,s)::σ) (St w0 hA hV (Z9 k' s ys::ps) os) L l Q):SP P n ρ σ (St w0 hA hV ps os) L (⟨some d,.load t x,tr,pos,af,g⟩::l) Q:=by
 refine SP.op (fun s:Value=>s) (fun s=>St w0 hA hV (Z9 k' s ys::ps) os) hg rfl hn (fun a w ha hw=>?_) h;obtain⟨m,fr,hN,hO,n1,n2,dj,s1,s2,p,q0⟩:=id hw;obtain⟨h1,h2,e1,t1,t2,r0,s0⟩:=Sep.take i os hi q0;obtain⟨hl,all,cs,hb,r,q⟩:=WT.elem r0 hj;obtain⟨s,c1,c2⟩:=hk _ _ r;have h3:=q _ _ c1;have hb':w.heap[b]?=some (.cells all.toArray T (0,0)):=s2 _ _ (t1 _ _ hb);have hcell:w.cell? ⟨b,pre.length+j.toNat*k.sz+off,none⟩=some s:=by simp[World.cell?,hb',h3]
 refine⟨s,w,by simp[execOp,ha.eval hx,Instr.loadAt,Instr.sureAddr,WQ hu rfl hcell],m,fr,hN,hO,n1,n2,dj,s1,s2,fun y hy=>?_,q0⟩;rcases List.mem_cons.1 hy with rfl|hy
 ·exact c2
 ·exact p y hy
theorem SP.ZlN{ι:Type}(see:YG w0 hA hV)(i:Nat)(C:ι→List Value)(F:ι→List HP)(hi:os[i]?=some (WT k b pre N xs post T))(hj:xs[j.toNat]?=some x0)(hk:∀a cs,k.rd a cs x0→∃z,cs=C z∧All (F z) a){X5:TypeDesc}(hu:P.underlying t=some X5)(hd:(match X5 with | .struct _ | .array _ _=>true | _=>false)=true)(hs:(P.info? t).map (·.size)=some k.sz)
    (hx:ev σ x=some (.pointer (some ⟨b,pre.length+j.toNat*k.sz,none⟩))) (hg:gd L σ g=some true) (hn:Nat.blt d n.n=true)
    (h:∀z,SP P n ρ ((d,.agg (C z).toArray)::σ) (St w0 hA hV (F z++ps) os) L l Q):SP P n ρ σ (St w0 hA hV ps os) L (⟨some d,.load t x,tr,pos,af,g⟩::l) Q:=by
 refine SP.op (fun z:ι =>.agg (C z).toArray) (fun z=>St w0 hA hV (F z++ps) os) hg rfl hn (fun a w ha hw=>?_) h;obtain⟨m,fr,hN,hO,n1,n2,dj,s1,s2,p,q0⟩:=id hw;obtain⟨h1,h2,e1,t1,t2,r0,s0⟩:=Sep.take i os hi q0;obtain⟨hl,all,cs,hb,r,q⟩:=WT.elem r0 hj;have hb':w.heap[b]?=some (.cells all.toArray T (0,0)):=s2 _ _ (t1 _ _ hb);have hlc:=k.len _ _ _ r;obtain⟨z,rfl,fz⟩:=hk _ _ r;have:=Ke (P:=P) (w:=w) (a:=⟨b,pre.length+j.toNat*k.sz,none⟩) (cs:=C z) hu hd (by rw[hlc];exact hs) (fun q' u hq=>by
  have hadd:(⟨b,pre.length+j.toNat*k.sz,none⟩:Addr).add q'=⟨b,pre.length+j.toNat*k.sz+q',none⟩:=by unfold Addr.add;split<;>simp_all
  rw[hadd];simp[World.cell?,hb',q _ _ hq])
 refine⟨z,w,by simp[execOp,ha.eval hx,Instr.loadAt,Instr.sureAddr,this],m,fr,hN,hO,n1,n2,dj,s1,s2,fun y hy=>?_,q0⟩;rcases List.mem_append.1 hy with hy|hy
 ·exact fz y hy
 ·exact p y hy
theorem WT.ahead{a h:Hp}(hr:(Go.Q.WT k b pre N xs post T).p a h):∃all:List Value,h b=some (.cells all.toArray T (0,0))∧∀(q:Nat) (u:Value),pre[q]?=some u→all[q]?=some u:=by
 obtain⟨cells,f,hN,hb⟩:=hr;refine⟨_,hb,fun q u hq=>?_⟩;rw[List.getElem?_append_left (Vp hq)];exact hq
theorem Val.JW(see:YG w0 hA hV)(i:Nat)(hi:os[i]?=some (WT k b pre N xs post T)){X5:TypeDesc}(hu:P.underlying t=some X5)(hd:(match X5 with | .struct _ | .array _ _=>true | _=>false)=false)
    (hx:ev σ x=some (.pointer (some ⟨b,off,none⟩))) (hc:nv pre off=some u):Val P n σ (St w0 hA hV ps os) ⟨dd,.load t x,tr,pos,af,g⟩ u:=fun a w ha hw=>by
 obtain⟨all,hb,q⟩:=WT.ahead (St.own i hi see.sub see.dj hw);rw[Z5B]at hc;have hcell:w.cell? ⟨b,off,none⟩=some u:=by
  have hb':w.heap[b]?=some (.cells all.toArray T (0,0)):=hb;simp[World.cell?,hb',q _ _ hc]
 simp[execOp,ha.eval hx,Instr.loadAt,Instr.sureAddr,WQ hu hd hcell]
theorem Zku{vs:List Value}{o:Nat}{post:List Value}:∀(pre cells:List Value),o+vs.length≤cells.length→put (pre++(cells++post)) (pre.length+o) vs=pre++(put cells o vs++post):=by
 intro pre cells h;rw[Z7m pre,put_eq _ _ _ (by simp;omega),put_eq _ _ _ h];rw[List.take_append_of_le_length (by omega),List.drop_append_of_le_length (by omega)];simp
theorem SP.Zgh(see:YG w0 hA hV)(i:Nat)(off:Nat)(hi:os[i]?=some (WT k b pre N xs post T))(hj:xs[j.toNat]?=some x0){vs:List Value}(hv:u.cells=vs.toArray)(h1:one vs=true)(hs:(P.info? t).map (·.size)=some vs.length)(hoff:Nat.ble (off+vs.length) k.sz=true)
    (hrd:∀a cs,All ps a→k.rd a cs x0→k.rd a (put cs off vs) z0) (hg:gd L σ g=some true) (hx:ev σ x=some (.pointer (some ⟨b,pre.length+j.toNat*k.sz+off,none⟩))) (hy:ev σ y=some u)
    (h:SP P n ρ σ (St w0 hA hV ps (os.set i (WT k b pre N (xs.set j.toNat z0) post T))) L l Q):SP P n ρ σ (St w0 hA hV ps os) L (⟨none,.store t x y,tr,pos,af,g⟩::l) Q:=by
 refine SP.act hg rfl (fun a w ha hw=>?_) h;obtain⟨hP,hh,hr,sP,sh,ap,back⟩:=hw.at i hi see
 obtain⟨cells,f,hN,hb⟩:=hr;have hlt:=Vp hj;have hof:off+vs.length≤k.sz:=by simpa using hoff
 have hbound:j.toNat*k.sz+k.sz≤xs.length*k.sz:=by rw[←Nat.succ_mul];exact Nat.mul_le_mul_right _ hlt
 have hlc:=f.len;have hb':w.heap[b]?=some (.cells (pre++(cells++post)).toArray T (0,0)):=sh _ _ hb;have hst:=Jb (P:=P) (t:=t) (v:=u) (w:=w) (b:=b) (off:=pre.length+j.toNat*k.sz+off) (cs:=pre++(cells++post)) (vs:=vs) (T:=T) hb' hs hv h1 (by simp;omega);have hmid:put (pre++(cells++post)) (pre.length+j.toNat*k.sz+off) vs=pre++(put cells (j.toNat*k.sz+off) vs++post):=by
  rw[Nat.add_assoc];exact Zku pre cells (by omega)
 rw[hmid]at hst;refine⟨w.setRow b (pre++(put cells (j.toNat*k.sz+off) vs++post)).toArray,by simp[execOp,ha.eval hx,ha.eval hy,Instr.storeAt,Instr.sureAddr,hst],back _ _ (bk b (.cells (pre++(put cells (j.toNat*k.sz+off) vs++post)).toArray T (0,0))) (Met.setRow _ _ _) (fun b2 hb2 hn=>setRow_other _ _ _ _ fun e=>by subst e;rw[show hh b2=_ from hb]at hn;cases hn) ?_ ?_ ?_⟩
 ·obtain⟨cs,r,q⟩:=f.get hj;have hcs:=k.len _ _ _ r;have hy':=hrd _ _ ap r;have hput:put cells (j.toNat*k.sz+off) vs=put cells (j.toNat*k.sz) (put cs off vs):=by
   have hpl:(put cs off vs).length=k.sz:=by rw[Z7k (by omega),hcs]
   apply List.ext_getElem?;intro i;rw[Z1j (by omega),Z1j (by omega),hpl];by_cases h1:j.toNat*k.sz≤i∧i<j.toNat*k.sz+k.sz
   ·rw[if_pos h1,Z1j (by omega)];by_cases h2:j.toNat*k.sz+off≤i∧i<j.toNat*k.sz+off+vs.length
    ·rw[if_pos h2,if_pos (by omega)];congr 1;omega
    ·rw[if_neg h2,if_neg (by omega)];have h4:i-j.toNat*k.sz<cs.length:=by omega
     have:=q (i-j.toNat*k.sz) cs[i-j.toNat*k.sz] (by simp[h4]);rw[show j.toNat*k.sz+(i-j.toNat*k.sz)=i from by omega]at this;rw[this];simp[h4]
   ·rw[if_neg h1,if_neg (by omega)]
  exact⟨put cells (j.toNat*k.sz+off) vs,by rw[hput];exact f.set hy' hlt,by simpa using hN,by simp[Zl,bk]⟩
 ·intro b2 o eb;unfold bk at eb;split at eb
  ·rename_i hbb;subst hbb;simp at eb;subst eb
   exact setRow_heap w b2 _ _ T (0,0) (sh _ _ hb)
  ·cases eb
 ·intro b2 hb2;unfold bk at hb2;split at hb2
  ·rename_i hbb;subst hbb;left;rw[show hh b2=_ from hb];simp
  ·simp at hb2
theorem WT.frozen{h:Hp}(hr:(WT k b pre N xs post T).p h h){c:Nat}(hc:c≤xs.length){cap:Nat}(hcap:c≤cap):Xb k h (.slice (some ⟨b,pre.length,none⟩) c cap) (xs.take c):=by
 have hl:(xs.take c).length=c:=by simp;omega
 refine⟨some ⟨b,pre.length,none⟩,cap,by rw[hl],by rw[hl];exact hcap,fun e=>(by cases e),fun a ha i x hx=>?_⟩;cases ha;have hx':xs[i]?=some x:=by
  have:=Vp hx;rw[List.getElem?_take_of_lt (by omega)]at hx;exact hx
 obtain⟨-,all,cs,hb,r,q⟩:=WT.elem hr hx';exact⟨rfl,cs,r,all.toArray,T,(0,0),hb,fun q' u hq=>by simpa using q q' u hq⟩
end
end Go.Q
namespace Go.Q
theorem Xb.from{α:Type}{k:Kd α}{h:Hp}{A:Option Addr}{len cap:Nat}{xs:List α}(hr:Xb k h (.slice A len cap) xs)(lo:Nat)(hlo:lo≤xs.length) :
    Xb k h (.slice (if cap=lo then A else A.map (·.add (lo*k.sz))) (len-lo) (cap-lo)) (xs.drop lo):=by
 obtain⟨A',cap',e,hle,hn,f⟩:=hr;simp only[Value.slice.injEq]at e;obtain⟨rfl,rfl,rfl⟩:=e;refine⟨_,_,by rw[List.length_drop],by rw[List.length_drop];omega,fun e=>?_,fun a ha i x hx=>?_⟩
 ·split at e
  ·obtain⟨z,z2⟩:=hn e;subst z;subst z2;simp
  ·cases A with
   |none=>obtain⟨z,z2⟩:=hn rfl;subst z;subst z2;simp
   |some a=>cases e
 ·rw[List.getElem?_drop]at hx;split at ha
  ·rename_i hc
   have:=Vp hx;omega
  ·cases A with
   |none=>cases ha
   |some a0=>
    simp only[Option.map_some,Option.some.injEq]at ha;subst ha;obtain⟨hs,cs,r,q⟩:=f a0 rfl _ _ hx;obtain⟨ab,ao,asp⟩:=a0;simp only at hs;subst hs;have hadd:(⟨ab,ao,none⟩:Addr).add (lo*k.sz)=⟨ab,ao+lo*k.sz,none⟩:=by unfold Addr.add;split<;>simp_all
    rw[hadd];refine⟨rfl,cs,r,?_⟩;have:ao+lo*k.sz+i*k.sz=ao+(lo+i)*k.sz:=by rw[Nat.add_mul];omega
    rw[show(⟨ab,ao+lo*k.sz,none⟩:Addr).off=ao+lo*k.sz from rfl,this];exact q
theorem Xb.upto{α:Type}{k:Kd α}{h:Hp}{A:Option Addr}{len cap:Nat}{xs:List α}(hr:Xb k h (.slice A len cap) xs)(c:Nat)(hc:c≤xs.length):Xb k h (.slice A c cap) (xs.take c):=by
 obtain⟨A',cap',e,hle,hn,f⟩:=hr;simp only[Value.slice.injEq]at e;obtain⟨rfl,rfl,rfl⟩:=e;have hl:(xs.take c).length=c:=by simp;omega
 refine⟨_,_,by rw[hl],by rw[hl];omega,fun e=>?_,fun a ha i x hx=>?_⟩
 ·obtain⟨z,z2⟩:=hn e;subst z;simp[z2]
 ·have:=Vp hx;rw[List.getElem?_take_of_lt (by omega)]at hx;exact f a ha i x hx
section
variable{P:Program}{n:Fr}{ρ:Option Nat}{σ:List (Nat×Value)}{w0 w:World}{hA hV:Hp}{ps:List HP}{os:List HO}{L l:List Oper}{Q:Cont}{d:Nat}{t tr e:TypeId}{x y:Operand}{pos:String}{af:Array Edge}{g:Option (Nat×Bool)}{α:Type}{k:Kd α}{xs:List α}{v:Value}{ik:IntKind}{z:Int}
theorem SP.Z8P(see:YG w0 hA hV)(i:Nat)(hi:ps[i]?=some (Z9 k v xs))(hu:P.underlying t=some (.slice e))(hs:(P.info? e).map (·.size)=some k.sz)(hx:ev σ x=some v)(hy:ev σ y=some (.int ik z))(h0:0≤z∧z≤xs.length)(hg:gd L σ g=some true)(hn:Nat.blt d n.n=true)
    (h:∀s,SP P n ρ ((d,s)::σ) (St w0 hA hV (Z9 k s (xs.drop z.toNat)::ps) os) L l Q):SP P n ρ σ (St w0 hA hV ps os) L (⟨some d,.slice t x (some y) none none,tr,pos,af,g⟩::l) Q:=by
 refine SP.op (fun s:Value=>s) (fun s=>St w0 hA hV (Z9 k s (xs.drop z.toNat)::ps) os) hg rfl hn (fun a w ha hw=>?_) h;obtain⟨A,cap,e1,hle,-⟩:=St.Ur i hi see.sub see.dj hw;subst e1;cases hq:P.info? e with
 |none=>simp[hq]at hs
 |some j=>
  have hj:j.size=k.sz:=by simpa[hq]using hs
  have hb:=run_sliceBound (P:=P) (w:=w) ik z xs.length .sliceB h0.1 h0.2;refine⟨.slice (if cap=z.toNat then A else A.map (·.add (z.toNat*k.sz))) (xs.length-z.toNat) (cap-z.toNat),w,by simp[execOp,ha.eval hx,ha.eval hy,Instr.sliceAt,Instr.slice,run_underlying hu,Instr.sliceBounds,hb,sizeOf,typeInfo,hq,hj],hw.know fun hh ap=>?_⟩;exact Xb.from (ap _ (List.mem_of_getElem? hi)) _ (by omega)
theorem SP.Z8c(see:YG w0 hA hV)(i:Nat)(hi:ps[i]?=some (Z9 k v xs))(hu:P.underlying t=some (.slice e))(hs:(P.info? e).map (·.size)=some k.sz)(hx:ev σ x=some v)(hy:ev σ y=some (.int ik z))(h0:0≤z∧z≤xs.length)(hg:gd L σ g=some true)(hn:Nat.blt d n.n=true)
    (h:∀s,SP P n ρ ((d,s)::σ) (St w0 hA hV (Z9 k s (xs.take z.toNat)::ps) os) L l Q):SP P n ρ σ (St w0 hA hV ps os) L (⟨some d,.slice t x none (some y) none,tr,pos,af,g⟩::l) Q:=by
 refine SP.op (fun s:Value=>s) (fun s=>St w0 hA hV (Z9 k s (xs.take z.toNat)::ps) os) hg rfl hn (fun a w ha hw=>?_) h;obtain⟨A,cap,e1,hle,-⟩:=St.Ur i hi see.sub see.dj hw;subst e1;cases hq:P.info? e with
 |none=>simp[hq]at hs
 |some j=>
  have hj:j.size=k.sz:=by simpa[hq]using hs
  have hb:=run_sliceBound (P:=P) (w:=w) ik z cap .sliceAcap h0.1 (by omega);refine⟨.slice A z.toNat cap,w,by
   have z0:∀c:Addr,c.add 0=c:=fun c=>by simp[Addr.add]
   simp[execOp,ha.eval hx,ha.eval hy,Instr.sliceAt,Instr.slice,run_underlying hu,Instr.sliceBounds,hb,sizeOf,typeInfo,hq,hj,z0],hw.know fun hh ap=>?_⟩
  exact Xb.upto (ap _ (List.mem_of_getElem? hi)) _ (by omega)
end
end Go.Q
namespace Go.Q
theorem Ziu{P:Program}{e:TypeId}{cs:List Value}{s b:Nat}(h:(P.info? e).map (fun i=>((i.zero.map fun z=>z.cells.toList),i.size,i.bytes))=some (some cs,s,b)) :
    ∃i0 z,P.info? e=some i0∧i0.zero=some z∧i0.size=s∧i0.bytes=b∧z.cells.size=cs.length:=by
 cases hi:P.info? e with
 |none=>simp[hi]at h
 |some i0=>
  cases hz:i0.zero with
  |none=>simp[hi,hz]at h
  |some z=>
   simp[hi,hz]at h;exact⟨i0,z,rfl,hz,h.2.1,h.2.2,by rw[←h.1];simp⟩
theorem ZeR{w w':World}{hV:Hp}{e:Ending}{α:Type}{k:Kd α}{T:TypeId}{cells:Array Value}{cap:Nat}(he:e=.returned (.slice (some ⟨w.heap.size,0,none⟩) 0 cap))(hw:w'=w.drew.alloc (.cells cells T))
    (hmax:cap≤maxLen) (hz:cells.size=cap*k.sz):∃v,e=.returned v∧Since w em hV ((fun r=>HO.ex fun u:Value=>HO.Yr (r=u) (HO.Yk [Zg k T u ([]:List α)])) v).p w':=by
 subst he;subst hw;refine⟨_,rfl,⟨rfl,rfl,rfl,?_⟩,fun b o e1 _=>Z5A _ _ _ _ e1,em,bk w.heap.size (.cells cells T (0,0)),fun _ _ _=>rfl,fun b hb _=>by
  have:b≠w.heap.size:=by omega
  simp[bk,this],Dj.YM _,Sub.em _,fun b o eb=>?_,_,rfl,bk w.heap.size (.cells cells T (0,0)),em,Dj.WM _,Sub.refl _,Sub.em _,?_,trivial⟩
 ·show w.heap.size≤(w.heap.push _).size;simp
 ·unfold bk at eb;split at eb
  ·rename_i hb;subst hb;simp at eb;subst eb;exact Z6k w.drew _
  ·cases eb
 ·exact⟨[],rfl,by simp,.inr ⟨w.heap.size,cap,cells,rfl,by simp[bk],Nat.zero_le _,hmax,hz,by simp⟩⟩
theorem ZeS{z:Array Value}{m cap s:Nat}(hc:m≤cap)(hz:z.size=s):(([]:List Value).toArray++Builtin.zeroCells z (0+m-0)++Builtin.zeroCells z (cap-(0+m))).size=cap*s:=by
 simp only[Nat.zero_add,Nat.sub_zero,Array.size_append,List.size_toArray,List.length_nil,size_zeroCells,hz];rw[←Nat.add_mul];congr 1;omega
end Go.Q
namespace Go.Q
def Z6u(b:Nat)(pre:List Value)(T:TypeId):HP:=⟨fun h=>∃all:List Value,h b=some (.cells all.toArray T (0,0))∧∀(q:Nat) (u:Value),pre[q]?=some u→all[q]?=some u,fun _ _ s ⟨all,e,q⟩=>⟨all,s _ _ e,q⟩⟩
theorem St.ZlO{ι:Type}{w0 w:World}{hA hV:Hp}{ps:List HP}{os:List HO}{x:HP}{z:ι→HP}(h:St w0 hA hV ps os w)(i:Nat)(hi:ps[i]?=some x)(hz:∀a,x.p a→∃c,(z c).p a):∃c,St w0 hA hV (z c::ps) os w:=by
 obtain⟨m,f,hN,hO,n1,n2,d,s1,s2,p,q⟩:=h;obtain⟨c,hc⟩:=hz _ (p _ (List.mem_of_getElem? hi));refine⟨c,m,f,hN,hO,n1,n2,d,s1,s2,fun y hy=>?_,q⟩;rcases List.mem_cons.1 hy with rfl|hy
 ·exact hc
 ·exact p y hy
section
variable{P:Program}{n:Fr}{ρ:Option Nat}{σ:List (Nat×Value)}{w0 w:World}{hA hV:Hp}{ps:List HP}{os:List HO}{L l:List Oper}{Q:Cont}{d:Nat}{dd:Option Nat}{t tr e T:TypeId}{x y:Operand}{pos:String}{af:Array Edge}{g:Option (Nat×Bool)}{α β:Type}{k:Kd α}{N b m off:Nat}{xs:List α}{pre post:List Value}{j:Int}{ik:IntKind}{x0 z0:α}{u v p:Value}{z:Int}
theorem WT.Z6u{h:Hp}(hr:(WT k b pre N xs post T).p h h):(Go.Q.Z6u b pre T).p h:=WT.ahead hr
theorem Val.Z5F(see:YG w0 hA hV)(i:Nat){X5:TypeDesc}(hi:ps[i]?=some (Go.Q.Z6u b pre T))(hu:P.underlying t=some X5)(hd:(match X5 with | .struct _ | .array _ _=>true | _=>false)=false)
    (hx:ev σ x=some (.pointer (some ⟨b,off,none⟩))) (hc:nv pre off=some u):Val P n σ (St w0 hA hV ps os) ⟨dd,.load t x,tr,pos,af,g⟩ u:=fun a w ha hw=>by
 obtain⟨all,hb,q⟩:=St.Ur i hi see.sub see.dj hw;rw[Z5B]at hc;have hcell:w.cell? ⟨b,off,none⟩=some u:=by
  have hb':w.heap[b]?=some (.cells all.toArray T (0,0)):=hb;simp[World.cell?,hb',q _ _ hc]
 simp[execOp,ha.eval hx,Instr.loadAt,Instr.sureAddr,WQ hu hd hcell]
theorem SP.Z5m(see:YG w0 hA hV)(i:Nat)(off:Nat){k':Kd β}{ys:List β}(hi:os[i]?=some (Zg k e v xs))(hj:xs[j.toNat]?=some x0)(hp:PtC v (j.toNat*k.sz+off) p)(hk:∀a cs,k.rd a cs x0→∃s,cs[off]?=some s∧Xb k' a s ys){e':TypeId}(hu:P.underlying t=some (.slice e'))
    (hx:ev σ x=some p) (hg:gd L σ g=some true) (hn:Nat.blt d n.n=true)
    (h:∀s,SP P n ρ ((d,s)::σ) (St w0 hA hV (Z9 k' s ys::ps) os) L l Q):SP P n ρ σ (St w0 hA hV ps os) L (⟨some d,.load t x,tr,pos,af,g⟩::l) Q:=by
 refine SP.op (fun s:Value=>s) (fun s=>St w0 hA hV (Z9 k' s ys::ps) os) hg rfl hn (fun a w ha hw=>?_) h;obtain⟨m,fr,hN,hO,n1,n2,dj,s1,s2,pp,q0⟩:=id hw;obtain⟨h1,h2,e1,t1,t2,r0,s0⟩:=Sep.take i os hi q0;obtain⟨b,cap,cur,cs,ev',hb,r,q⟩:=Zg.elem r0 hj;obtain⟨b',len',cap',e2,rfl⟩:=hp;rw[ev']at e2;simp only[Value.slice.injEq,Option.some.injEq,Addr.mk.injEq,and_true]at e2;obtain⟨rfl,-⟩:=e2;obtain⟨s,c1,c2⟩:=hk _ _ r;have h3:=q _ _ c1;have hb':w.heap[b]?=some (.cells cur e (0,0)):=s2 _ _ (t1 _ _ hb);have hcell:w.cell? ⟨b,j.toNat*k.sz+off,none⟩=some s:=by simp[World.cell?,hb',h3]
 refine⟨s,w,by simp[execOp,ha.eval hx,Instr.loadAt,Instr.sureAddr,WQ hu rfl hcell],m,fr,hN,hO,n1,n2,dj,s1,s2,fun y hy=>?_,q0⟩;rcases List.mem_cons.1 hy with rfl|hy
 ·exact c2
 ·exact pp y hy
theorem SP.ZlP(see:YG w0 hA hV)(i:Nat)(hi:os[i]?=some (WT k b pre N xs post T))(hu:P.underlying t=some (.array N e))(hs:(P.info? e).map (·.size)=some k.sz)(hx:ev σ x=some (.pointer (some ⟨b,m,none⟩)))(hm:pre.length=m)(hy:ev σ y=some (.int ik z))(h0:0≤z∧z≤N)(hg:gd L σ g=some true)(hn:Nat.blt d n.n=true)
    (h:∀s,SP P n ρ ((d,s)::σ) (St w0 hA hV (Z9 k s (xs.take z.toNat)::ps) (os.eraseIdx i)) L l Q):SP P n ρ σ (St w0 hA hV ps os) L (⟨some d,.slice t x none (some y) none,tr,pos,af,g⟩::l) Q:=by
 refine SP.op (fun s:Value=>s) (fun s=>St w0 hA hV (Z9 k s (xs.take z.toNat)::ps) (os.eraseIdx i)) hg rfl hn (fun a w ha hw=>?_) h;obtain⟨_,_,hN,_⟩:=St.own i hi see.sub see.dj hw;cases hq:P.info? e with
 |none=>simp[hq]at hs
 |some jj=>
  have hj:jj.size=k.sz:=by simpa[hq]using hs
  have hb:=run_sliceBound (P:=P) (w:=w) ik z N .sliceAlen h0.1 (by omega);refine⟨.slice (some ⟨b,m,none⟩) z.toNat N,w,by
   have z0:∀c:Addr,c.add 0=c:=fun c=>by simp[Addr.add]
   simp[execOp,ha.eval hx,ha.eval hy,Instr.sliceAt,Instr.slice,run_underlying hu,Instr.sliceBounds,hb,sizeOf,typeInfo,hq,hj,z0,Instr.sureAddr],?_⟩
  have hf:=hw.freeze i hi see.dj see.sub;obtain⟨c,hc⟩:=St.ZlO hf (z:=fun _:Unit=>Z9 k (.slice (some ⟨b,m,none⟩) z.toNat N) (xs.take z.toNat)) 0 rfl (fun h hh=>⟨(),by rw[←hm];exact WT.frozen hh (by omega) (by omega)⟩);exact St.imp (fun h q y hy=>by
   rcases List.mem_cons.1 hy with rfl|hy
   ·exact q _ (by simp)
   ·exact q _ (by simp[hy])) (fun _ _ _ q=>q) hc
end
end Go.Q
namespace Go.Q
def Ones:List Value→Prop
 | []=>True
 |v::r=>v.cells = #[v]∧Ones r
theorem Ones.flat:∀{vs:List Value},Ones vs→Z4R vs=vs
 | [],_=>rfl
 |v::r,⟨h,k⟩=>by simp[Z4R,h,k.flat]
theorem Ones.szs:∀{vs:List Value},Ones vs→szs 1 vs=true
 | [],_=>rfl
 |v::r,⟨h,k⟩=>by simp[Go.Q.szs,h,k.szs]
theorem Xb.Z1O{α:Type}{k:Kd α}{h:Hp}{v:Value}{xs:List α}(q:Xb k h v xs):v.cells = #[v]:=by
 obtain⟨_,_,rfl,-⟩:=q;rfl
theorem Zgi{α:Type}{xs:List α}{i:Nat}{x0:α}(z:α)(h:xs[i]?=some x0):(xs.set i z)[i]?=some z:=List.getElem?_set_self (Vp h)
section
variable{P:Program}{n:Fr}{ρ:Option Nat}{σ:List (Nat×Value)}{A:World→Prop}{L l:List Oper}{Q:Cont}{d:Nat}{dd:Option Nat}{t tr:TypeId}{x y:Operand}{pos:String}{af:Array Edge}{g:Option (Nat×Bool)}{w0:World}{hA hV:Hp}{ps:List HP}{os:List HO}{α:Type}{k:Kd α}{b N m:Nat}{e T:TypeId}{pre post:List Value}{xs:List α}
theorem SP.Z9N{len:Nat}{parts:Array (Nat×Operand)}{vs:List Value}{cs:List Value}{bytes:Nat}(hu:P.underlying t=some (.slice e))(hin:(P.info? e).map (fun i=>((i.zero.map fun z=>z.cells.toList),i.size,i.bytes))=some (some cs,k.sz,bytes))(h1:k.sz=1)
    (hp:parts.toList.map (fun q=>q.1)=keys 0 vs) (he:evs σ (parts.toList.map (·.2))=some vs) (hsmall:Nat.ble (len*k.sz) 1000=true) (hpos:Nat.blt 0 (len*k.sz)=true) (hlv:vs.length=len)
    (ho:∀a,All ps a→Ones vs)
    (hxs:∀a,All ps a→Flat k a vs xs) (hl:xs.length=len) (hg:gd L σ g=some true) (hn:Nat.blt d n.n=true)
    (h:∀v,SP P n ρ ((d,v)::σ) (St w0 hA hV ps (Zg k e v xs::os)) L l Q):SP P n ρ σ (St w0 hA hV ps os) L (⟨some d,.buildSlice t len parts,tr,pos,af,g⟩::l) Q:=fun a w ha hw=>by
 obtain⟨_,_,_,_,_,_,_,_,_,p,_⟩:=id hw;have o:=ho _ p;exact SP.lit (k:=k) (xs:=xs) (vs:=vs) (cells:=vs) hu hin hp he hsmall hpos (by rw[h1];rfl) hlv (by rw[h1];exact o.szs) o.flat hxs hl hg hn h a w ha hw
end
section
variable{P:Program}{n:Fr}{ρ:Option Nat}{σ:List (Nat×Value)}{w0 w:World}{hA hV:Hp}{ps:List HP}{os:List HO}{L l:List Oper}{Q:Cont}{d:Nat}{dd:Option Nat}{t e T T' tr:TypeId}{x y:Operand}{pos:String}{af:Array Edge}{g:Option (Nat×Bool)}{v u p s:Value}{α β:Type}{k:Ko α}{kd:Kd β}{xs:List α}{x0 z0:α}{j:Int}{i m off:Nat}{get:α→List β}{set:α→List β→α}
def ZlQ{α:Type}(k:Ko α)(T:TypeId)(v:Value)(xs:List α)(j:Int)(off:Nat)(s:Value):HO:=
 ⟨fun a h=>(Vf k T v xs).p a h∧∃b cap cur,v=.slice (some ⟨b,0,none⟩) xs.length cap∧h b=some (.cells cur T (0,0))∧cur[j.toNat*k.kd.sz+off]?=some s,
  fun _ _ _ _ sa sb ⟨q,b,cap,cur,e,hb,hc⟩=>⟨(Vf k T v xs).mono _ _ _ _ sa sb q,b,cap,cur,e,sb _ _ hb,hc⟩⟩
end
end Go.Q
namespace Go.Q
theorem Z9O{z:Array Value}(hz:0<z.size)(m:Nat):(madeCells z (m*z.size)).toList=(List.replicate m z.toList).flatten:=by
 have key:∀(m i:Nat),((List.replicate m z.toList).flatten)[i]?=if i<m*z.size then some z[i % z.size]! else none:=by
  intro m;induction m with
  |zero=>intro i;simp
  |succ m ih=>
   intro i;rw[List.replicate_succ,List.flatten_cons,Nat.succ_mul];by_cases h:i<z.size
   ·rw[List.getElem?_append_left (by simpa using h),Nat.mod_eq_of_lt h,if_pos (by omega),Array.getElem?_toList,Array.getElem?_eq_getElem h,getElem!_pos z i h]
   ·rw[List.getElem?_append_right (by simpa using Nat.le_of_not_lt h),Array.length_toList,ih,Nat.mod_eq_sub_mod (Nat.le_of_not_lt h)];by_cases h2:i-z.size<m*z.size
    ·rw[if_pos h2,if_pos (by omega)]
    ·rw[if_neg h2,if_neg (by omega)]
 apply List.ext_getElem?;intro i;rw[key];by_cases h:i<m*z.size
 ·rw[if_pos h];simp[madeCells,h]
 ·rw[if_neg h];simp[madeCells];omega
def Z5G(s:ByteArray)(i:Int):Option Int:=if hi:0≤i∧i<s.size then some ((s[i.toNat]'(by omega)).toNat:Int)else none
theorem Val.ZlR{P:Program}{n:Fr}{σ:List (Nat×Value)}{A:World→Prop}{dd:Option Nat}{t tr:TypeId}{x y:Operand}{pos:String}{af:Array Edge}{g:Option (Nat×Bool)}{s:ByteArray}{ik:IntKind}{i c:Int}(hu:P.underlying t=some .string)(h:Z5G s i=some c)(hx:ev σ x=some (.string s))(hy:ev σ y=some (.int ik i)) :
    Val P n σ A ⟨dd,.index t x y,tr,pos,af,g⟩ (.int .u8 c):=by
 intro a w ha hw;unfold Z5G at h;by_cases hi:0≤i∧i<s.size
 ·rw[dif_pos hi]at h;obtain rfl:=sI h;have:=run_index_string (P:=P) w t s ik i hu;rw[dif_pos hi]at this;simp[execOp,ha.eval hx,ha.eval hy,this]
 ·rw[dif_neg hi]at h;cases h
section
variable{P:Program}{n:Fr}{ρ:Option Nat}{σ:List (Nat×Value)}{w0 w:World}{hA hV:Hp}{ps:List HP}{os:List HO}{L l:List Oper}{Q:Cont}{d:Nat}{dd:Option Nat}{t e T T' tr:TypeId}{x y:Operand}{pos:String}{af:Array Edge}{g:Option (Nat×Bool)}{v u p s:Value}{α β:Type}
theorem SP.ZeT{k:Kd α}{cs:List Value}{z:α}{bytes:Nat}{kk:Int}{kl:IntKind}(hu:P.underlying t=some (.slice e))(hi:(P.info? e).map (fun i=>((i.zero.map fun z=>z.cells.toList),i.size,i.bytes))=some (some cs,k.sz,bytes))(hl:cs.length=k.sz)(h0:Nat.blt 0 k.sz=true)(hz:∀a,k.rd a cs z)(hg:gd L σ g=some true)(hn:Nat.blt d n.n=true)
    (hx:ev σ x=some (.int kl kk)) (hy:ev σ y=some (.int kl kk)) (hb:(0:Int)≤kk∧(bytes:Int)*kk≤281474976710656∧(kk:Int)≤9223372036854775807)
    (h:∀v,SP P n ρ ((d,v)::σ) (St w0 hA hV ps (Zg k e v (List.replicate kk.toNat z)::os)) L l Q):SP P n ρ σ (St w0 hA hV ps os) L (⟨some d,.makeSlice t x y,tr,pos,af,g⟩::l) Q:=by
 obtain⟨i,zz,i1,i2,i3,i4,i5⟩:=Z47 hi;have h0':0<k.sz:=by simpa using h0
 have e1:zz.cells.toList=cs:=congrArg Array.toList i3;have e2:zz.cells.size=k.sz:=by rw[←Array.length_toList,e1,hl]
 refine SP.op (fun v:Value=>v) (fun v=>St w0 hA hV ps (Zg k e v (List.replicate kk.toNat z)::os)) hg rfl hn (fun a w ha hw=>⟨.slice (some ⟨w.heap.size,0,none⟩) kk.toNat kk.toNat,_,?_,hw.Z6l (.cells (madeCells zz.cells (kk.toNat*i.size)) e) fun b hb'=>?_⟩) h
 ·have:=run_make (P:=P) w t e i zz hu i1 i2 kl kl kk kk hb.1 (Int.le_refl _) (by rw[i5];exact hb.2.1) hb.2.2;simp[execOp,ha.eval hx,ha.eval hy,this]
 ·rw[i4];have q1:=Z9O (z:=zz.cells) (by omega) kk.toNat;have q2:(madeCells zz.cells (kk.toNat*zz.cells.size)).size=kk.toNat*zz.cells.size:=size_madeCells _ _;rw[e2]at q1 q2;have q3:Flat k b (madeCells zz.cells (kk.toNat*k.sz)).toList (List.replicate kk.toNat z):=by
   rw[q1,e1];exact Flat.rep (hz b) _
  refine⟨_,q3,?_,.inr ⟨w.heap.size,kk.toNat,_,?_,ZjJ,?_,?_,?_,?_⟩⟩
  ·rw[Array.length_toList,q2,List.length_replicate]
  ·rw[List.length_replicate]
  ·rw[List.length_replicate];exact Nat.le_refl _
  ·simp only[maxLen];omega
  ·rw[q2]
  ·rw[List.length_replicate];exact List.take_of_length_le (by rw[Array.length_toList,q2];exact Nat.le_refl _)
end
end Go.Q
namespace Go.Q
section
variable{P:Program}{n:Fr}{ρ:Option Nat}{σ:List (Nat×Value)}{w0 w:World}{hA hV:Hp}{ps:List HP}{os:List HO}{L l:List Oper}{Q:Cont}{d:Nat}{dd:Option Nat}{t e T T' tr:TypeId}{x y:Operand}{pos:String}{af:Array Edge}{g:Option (Nat×Bool)}{v u p s:Value}{α β:Type}{k:Ko α}{kd:Kd β}{j:Int}{off:Nat}
end
end Go.Q
namespace Go.Q
class WR(P:Program)(t:TypeId)(d:outParam TypeDesc):Prop where
 h:P.underlying t=some d
class VK(P:Program)(t:TypeId)(f:Nat)(q:outParam Nat):Prop where
 h:∃fs fd s,P.underlying t=some (.struct fs)∧fs[f]?=some fd∧fd.offset=q∧(P.info? fd.type).map (·.size)=some (s+1)
class UE(P:Program)(t:TypeId)(k:outParam Nat):Prop where
 h:(P.info? t).map (·.size)=some k
def ag(d:TypeDesc):Bool:=match d with | .struct _ | .array _ _=>true | _=>false
section
variable{P:Program}{n:Fr}{σ:List (Nat×Value)}{w0:World}{hA hV:Hp}{ps:List HP}{os:List HO}{dd:Option Nat}{t tr:TypeId}{x:Operand}{pos:String}{af:Array Edge}{g:Option (Nat×Bool)}{v:Value}
theorem Val.f0{b f q:Nat}(hx:ev σ x=some (.pointer (some ⟨b,0,none⟩)))[hu:VK P t f q] :
    Val P n σ (St w0 hA hV ps os) ⟨dd,.fieldAddr t x f,tr,pos,af,g⟩ (.pointer (some ⟨b,q,none⟩)):=by
 obtain⟨fs,fd,s,h1,h2,h3,h4⟩:=hu.h;have:=Val.fieldAddr (dd:=dd) (pos:=pos) (af:=af) (g:=g) (tr:=tr) (w0:=w0) (hA:=hA) (hV:=hV) (ps:=ps) (os:=os) (n:=n) h1 h2 h4 hx;rw[h3,Nat.zero_add]at this;exact this
theorem Val.fa{b off f q:Nat}(hx:ev σ x=some (.pointer (some ⟨b,off,none⟩)))[hu:VK P t f q] :
    Val P n σ (St w0 hA hV ps os) ⟨dd,.fieldAddr t x f,tr,pos,af,g⟩ (.pointer (some ⟨b,off+q,none⟩)):=by
 obtain⟨fs,fd,s,h1,h2,h3,h4⟩:=hu.h;have:=Val.fieldAddr (dd:=dd) (pos:=pos) (af:=af) (g:=g) (tr:=tr) (w0:=w0) (hA:=hA) (hV:=hV) (ps:=ps) (os:=os) (n:=n) h1 h2 h4 hx;rw[h3]at this;exact this
theorem Val.l1{b off:Nat}{cs:List Value}{T:TypeId}{X5:TypeDesc}(hx:ev σ x=some (.pointer (some ⟨b,off,none⟩)))
    (hi:∃i:Nat,os[i]?=some (Zl b cs T):=by first|exact⟨0,rfl⟩|exact⟨1,rfl⟩|exact⟨2,rfl⟩|exact⟨3,rfl⟩|exact⟨4,rfl⟩|exact⟨5,rfl⟩|exact⟨6,rfl⟩|exact⟨7,rfl⟩|exact⟨8,rfl⟩|exact⟨9,rfl⟩)
    [hu:WR P t X5] (hd:ag X5=false:=by rfl) (hc:nv cs off=some v:=by rfl) :
    Val P n σ (St w0 hA hV ps os) ⟨dd,.load t x,tr,pos,af,g⟩ v:=let ⟨i,h⟩:=hi;Val.ZjG i h hu.h (by revert hd;cases X5<;>simp[ag]) hx hc
theorem Val.ln{α:Type}{k:Kd α}{xs:List α}{e:TypeId}(hx:ev σ x=some v)[hu:WR P t (.slice e)](se:YG w0 hA hV:=by exact see)
    (hi:∃i:Nat,ps[i]?=some (Z9 k v xs):=by first|exact⟨0,rfl⟩|exact⟨1,rfl⟩|exact⟨2,rfl⟩|exact⟨3,rfl⟩|exact⟨4,rfl⟩|exact⟨5,rfl⟩|exact⟨6,rfl⟩|exact⟨7,rfl⟩|exact⟨8,rfl⟩|exact⟨9,rfl⟩|exact⟨10,rfl⟩|exact⟨11,rfl⟩|exact⟨12,rfl⟩) :
    Val P n σ (St w0 hA hV ps os) ⟨dd,.call ⟨.builtin .len,#[x],#[t]⟩,tr,pos,af,g⟩ (.int .i64 (xs.length:Int)):=let ⟨i,h⟩:=hi;Val.Zlx se i h hu.h hx
end
section
variable{P:Program}{n:Fr}{ρ:Option Nat}{σ:List (Nat×Value)}{A:World→Prop}{L l:List Oper}{Q:Cont}{o:Oper}{d:Nat}{v:Value}
theorem Val.go(hv:Val P n σ A o v:=by first
      |exact Val.assign rfl|exact Val.move rfl|exact Val.ZjE rfl rfl|exact Val.ZjF rfl rfl
      |exact Val.f0 rfl|exact Val.fa rfl|exact Val.l1 rfl|exact Val.ln rfl
      |exact Val.eql rfl rfl|exact Val.lss rfl rfl|exact Val.add rfl rfl|exact Val.neq rfl rfl|exact Val.sub rfl rfl|exact Val.gtr rfl rfl|exact Val.geq rfl rfl|exact Val.leq rfl rfl|exact Val.mul rfl rfl
      |exact Val.extract rfl rfl|exact Val.Zlw rfl|exact Val.nilCheck rfl):Val P n σ A o v:=hv
theorem SP.op1(h:SP P n ρ ((d,v)::σ) A L l Q)(hd:o.dst=some d:=by rfl)(hg:gd L σ o.guard=some true:=by rfl)(hn:Nat.blt d n.n=true:=by rfl)(hv:Val P n σ A o v:=by exact Val.go):SP P n ρ σ A L (o::l) Q:=SP.val hv hg hd hn h
section
variable{T:Nat→Bool}{S:World→Prop}{fuel:Nat}{listed:Array Bool}
theorem DA.ph(lo hi:Nat)(h:DT P n ρ σ A L Q (fun i=>Nat.ble lo i&&Nat.blt i hi) A fuel listed):DA P n ρ σ A L Q fuel listed:=DA.phase _ _ h
theorem DT.tk(i:Nat)(h:DT P n ρ ((d,v)::σ) S L Q T S fuel (listed.setIfInBounds i true))(hi:nth L i=some o:=by rfl)(hd:o.dst=some d:=by rfl)(hn:Nat.blt d n.n=true:=by rfl)(hg:gd L σ o.guard=some true:=by rfl)
    (hf:(Region.noSelect L.toArray&&Z0u L.toArray&&Z3c T L.toArray listed i&&(Region.ready .any L.toArray listed).contains i)=true:=by kernel_rfl)
    (hQ:∀c a w,Q (.panic c) (a.put o.dst v) w→Q (.panic c) a w:=by exact fun _ _ _ h=>h) (hv:Val P n σ S o v:=by exact Val.go):DT P n ρ σ S L Q T S (fuel+1) listed:=
 DT.take i hi hd hn hg hf hQ hv (fun _ h=>h) h
theorem DT.tv(i:Nat)(hi:nth L i=some o)(hv:Val P n σ S o v)(h:DT P n ρ ((d,v)::σ) S L Q T S fuel (listed.setIfInBounds i true))(hd:o.dst=some d:=by rfl)(hn:Nat.blt d n.n=true:=by rfl)(hg:gd L σ o.guard=some true:=by rfl)
    (hf:(Region.noSelect L.toArray&&Z0u L.toArray&&Z3c T L.toArray listed i&&(Region.ready .any L.toArray listed).contains i)=true:=by kernel_rfl)
    (hQ:∀c a w,Q (.panic c) (a.put o.dst v) w→Q (.panic c) a w:=by exact fun _ _ _ h=>h):DT P n ρ σ S L Q T S (fuel+1) listed:=DT.take i hi hd hn hg hf hQ hv (fun _ h=>h) h
theorem DT.ts(i:Nat)(hi:nth L i=some o)(hv:Val P n σ S o v)(hS:∀w,A w→S w)(h:DT P n ρ ((d,v)::σ) A L Q T S fuel (listed.setIfInBounds i true))(hd:o.dst=some d:=by rfl)(hn:Nat.blt d n.n=true:=by rfl)(hg:gd L σ o.guard=some true:=by rfl)
    (hf:(Region.noSelect L.toArray&&Z0u L.toArray&&Z3c T L.toArray listed i&&(Region.ready .any L.toArray listed).contains i)=true:=by kernel_rfl)
    (hQ:∀c a w,Q (.panic c) (a.put o.dst v) w→Q (.panic c) a w:=by exact fun _ _ _ h=>h):DT P n ρ σ A L Q T S (fuel+1) listed:=DT.take i hi hd hn hg hf hQ hv hS h
theorem DT.tn(i:Nat)(h:DT P n ρ ((d,undef)::σ) S L Q T S fuel (listed.setIfInBounds i true))(hi:nth L i=some o:=by rfl)(hd:o.dst=some d:=by rfl)(hn:Nat.blt d n.n=true:=by rfl)(hg:gd L σ o.guard=some false:=by rfl)
    (hf:(Region.noSelect L.toArray&&Z0u L.toArray&&Z3c T L.toArray listed i&&(Region.ready .any L.toArray listed).contains i)=true:=by kernel_rfl)
    (hQ:∀c a w,Q (.panic c) (a.put o.dst undef) w→Q (.panic c) a w:=by exact fun _ _ _ h=>h):DT P n ρ σ S L Q T S (fuel+1) listed:=
 DT.not i hi hd hn hg hf hQ (fun _ h=>h) h
end
attribute [local irreducible] CP SP QE DA DT Val St
theorem CP.ZlS{id:Nat}{y:Code}(h:SP P n ρ σ A l l (Exit.then (y.wpIn (FF ρ) 0 P Q) Q)):CP P n ρ σ A (.seq (.region id l.toArray false) y) Q:=CP.seq (CP.region h)
theorem QE.tX{nx:Act→World→Prop}{k:Nat}(h:QE n σ A Q (.exit k)):QE n σ A (Exit.then nx Q) (.exit k):=QE.ZeH (by intro e;cases e) h
theorem QE.tR{nx:Act→World→Prop}(h:QE n σ A Q .ret):QE n σ A (Exit.then nx Q) .ret:=QE.ZeH (by intro e;cases e) h
theorem QE.tG{nx:Act→World→Prop}{k:Nat}(h:QE n σ A Q (.goto k)):QE n σ A (Exit.then nx Q) (.goto k):=QE.ZeH (by intro e;cases e) h
theorem QE.tP{nx:Act→World→Prop}{ch:List PanicEntry}(h:QE n σ A Q (.panic ch)):QE n σ A (Exit.then nx Q) (.panic ch):=QE.ZeH (by intro e;cases e) h
theorem go{G R:Prop}(q:R)(h:R→G:=by
 intro q
 repeat (first
  |refine SP.op1 ?_|refine SP.nil ?_|refine QE.then ?_|refine CP.ZlS ?_|refine CP.region ?_
  |refine QE.tX ?_|refine QE.tR ?_|refine QE.tG ?_|refine QE.tP ?_|refine QE.Zg6 ?_|refine SP.not rfl rfl rfl ?_
  |refine CP.ret ?_|refine CP.skip ?_|refine CP.block ?_|refine CP.exit ?_|refine QE.Zg7 rfl ?_|refine QE.Zg4 ?_|refine QE.Zg5 ?_|refine QE.Zg3 ?_)
 exact q):G:=h q
end
section
variable{P:Program}{n:Fr}{ρ:Option Nat}{σ σ':List (Nat×Value)}{A A':World→Prop}{L l:List Oper}{Q:Cont}{d:Nat}{v:Value}{w0:World}{hA hV:Hp}{ps:List HP}{os:List HO}
theorem sb{α:Prop}(h:α:=by repeat (first|exact trivial|refine⟨rfl,?_⟩)):α:=h
inductive Pk(σ:List (Nat×Value)):List Nat→List (Nat×Value)→Prop where
 |nil:Pk σ [] []
 |cons {k:Nat} {v:Value} {ks:List Nat} {r:List (Nat×Value)}:find k σ=some v→Pk σ ks r→Pk σ (k::ks) ((k,v)::r)
theorem wpQ{M:Act→World→Prop}{o:Oper}{a:Act}{w:World}{K:Act→World→Prop}(h:o.wpIn (FF ρ) 0 P a w K (Exit.then M Q)):o.wpIn (FF ρ) 0 P a w K Q:=by
 unfold Oper.wpIn at *;refine⟨h.1,?_⟩;have hh:=h.2;generalize (o.semAt (FF ρ).round a.eval).run P w=r at *
 unfold Oper.uponIn at *;split at hh<;>first|exact hh|(refine⟨hh.1,?_⟩;exact hh.2)|skip
theorem Z3f{M:Act→World→Prop}{ops:Array Oper}:∀(k:Nat) (l:List Oper) (a:Act) (w:World),(∀a w,M a w→wpListIn (FF ρ) 0 P ops Q (l.drop k) a w)→wpListIn (FF ρ) 0 P ops (Exit.then M Q) (l.take k) a w→wpListIn (FF ρ) 0 P ops Q l a w
 | 0,l,a,w,h1,h2=>by simpa using h1 a w h2
 |k+1,[],a,w,h1,h2=>by simpa using h1 a w h2
 |k+1,o::l,a,w,h1,h2=>by
  simp only[List.take_succ_cons,List.drop_succ_cons]at h1 h2;unfold wpListIn at h2 ⊢;split at h2
  ·rename_i hw;rw[if_pos hw]
   exact Oper.wpIn_mono (fun a w q=>Z3f k l a w h1 q) (wpQ h2)
  ·rename_i hw;rw[if_neg hw]
   exact⟨h2.1,Z3f k l _ _ h1 h2.2⟩
theorem SP.jn(k:Nat)(ks:List Nat)(d:Nat)(v:Value)(later:SP P n ρ ((d,v)::σ') A L (l.drop k) Q)(now:SP P n ρ σ A L (l.take k) (Exit.then (fun a w=>Env n ((d,v)::σ') a∧A w) Q))
    (hp:Pk σ ks σ':=by repeat (first|exact Pk.nil|apply Pk.cons rfl)):SP P n ρ σ A L l Q:=fun a w ha hw=>
 Z3f k l a w (fun a w ⟨ha,hw⟩=>later a w ha hw) (now a w ha hw)
theorem SP.js(k:Nat)(ks:List Nat)(d:Nat)(v:Value)(A':World→Prop)(later:SP P n ρ ((d,v)::σ') A' L (l.drop k) Q)(now:SP P n ρ σ A L (l.take k) (Exit.then (fun a w=>Env n ((d,v)::σ') a∧A' w) Q))
    (hp:Pk σ ks σ':=by repeat (first|exact Pk.nil|apply Pk.cons rfl)):SP P n ρ σ A L l Q:=fun a w ha hw=>
 Z3f k l a w (fun a w ⟨ha,hw⟩=>later a w ha hw) (now a w ha hw)
theorem QE.jn(h:∀w,A w→A' w)(s:Z0M σ' σ:=by repeat (first|exact trivial|refine⟨rfl,?_⟩)) :
    QE n σ A (Exit.then (fun a w=>Env n σ' a∧A' w) Q) .normal:=fun a w ha hw=>⟨ha.sub s,h w hw⟩
theorem QE.jb{b b':Bool}(e:b=b')(h:∀w,A w→A' w)(hd:find d σ=some (.bool b):=by rfl)(s:Z0M σ' σ:=by repeat (first|exact trivial|refine⟨rfl,?_⟩)) :
    QE n σ A (Exit.then (fun a w=>Env n ((d,.bool b')::σ') a∧A' w) Q) .normal:=fun a w ha hw=>⟨ha.sub ⟨e▸hd,s⟩,h w hw⟩
theorem CP.ci{c:Prop}[Decidable c]{γ:Type}{X Y:Option γ}{r:γ}{b:Operand}{x y:Code}(ho:(if c then X else Y)=some r)(t:X=some r→CP P n ρ σ A x Q)(f:Y=some r→CP P n ρ σ A y Q)(hb:ev σ b=some (.bool (decide c)):=by rfl):CP P n ρ σ A (.cond b x y) Q:=by
 rcases TD ho with ⟨hc,ho⟩|⟨hc,ho⟩
 ·exact CP.W9 hb (decide_eq_true hc) (t ho)
 ·exact CP.K4 hb (decide_eq_false hc) (f ho)
theorem CP.cb{c:Bool}{γ:Type}{X Y:Option γ}{r:γ}{b:Operand}{x y:Code}(ho:(if c=true then X else Y)=some r)(t:X=some r→CP P n ρ σ A x Q)(f:Y=some r→CP P n ρ σ A y Q)(hb:ev σ b=some (.bool c):=by rfl):CP P n ρ σ A (.cond b x y) Q:=by
 rcases TD ho with ⟨hc,ho⟩|⟨hc,ho⟩
 ·exact CP.W9 hb hc (t ho)
 ·exact CP.K4 hb (bf hc) (f ho)
theorem SP.ci{c:Prop}[Decidable c]{γ:Type}{X Y:Option γ}{r:γ}(d:Nat)(ho:(if c then X else Y)=some r)(t:decide c=true→X=some r→SP P n ρ ((d,.bool true)::σ) A L l Q)(f:decide c=false→Y=some r→SP P n ρ ((d,.bool false)::σ) A L l Q)(hb:find d σ=some (.bool (decide c)):=by rfl):SP P n ρ σ A L l Q:=by
 rcases TD ho with ⟨hc,ho⟩|⟨hc,ho⟩
 ·exact SP.isT hb (decide_eq_true hc) (t (decide_eq_true hc) ho)
 ·exact SP.isF hb (decide_eq_false hc) (f (decide_eq_false hc) ho)
theorem SP.cb{c:Bool}{γ:Type}{X Y:Option γ}{r:γ}(d:Nat)(ho:(if c=true then X else Y)=some r)(t:c=true→X=some r→SP P n ρ ((d,.bool true)::σ) A L l Q)(f:c=false→Y=some r→SP P n ρ ((d,.bool false)::σ) A L l Q)(hb:find d σ=some (.bool c):=by rfl):SP P n ρ σ A L l Q:=by
 rcases TD ho with ⟨hc,ho⟩|⟨hc,ho⟩
 ·exact SP.isT hb hc (t hc ho)
 ·exact SP.isF hb (bf hc) (f (bf hc) ho)
theorem SP.bb{c:Bool}(d:Nat)(t:c=true→SP P n ρ ((d,.bool true)::σ) A L l Q)(f:c=false→SP P n ρ ((d,.bool false)::σ) A L l Q)(hb:find d σ=some (.bool c):=by rfl):SP P n ρ σ A L l Q:=SP.ZbN hb t f
theorem SP.k0{f:Value}{l':List HO}(h:SP P n ρ ((d,f)::σ) (St w0 hA hV ps (l'++os)) L l Q):∀vr,SP P n ρ ((d,vr)::σ) (St w0 hA hV ps (HO.Yr (vr=f) (HO.Yk l')::os)) L l Q:=fun vr a w ha hw=>by
 obtain⟨e,hw2⟩:=St.Yr hw;subst e;exact h a w ha (St.Yk hw2)
theorem SP.k1{ι:Type}{f:ι→Value}{l':ι→List HO}(h:∀u,SP P n ρ ((d,f u)::σ) (St w0 hA hV ps (l' u++os)) L l Q):∀vr,SP P n ρ ((d,vr)::σ) (St w0 hA hV ps ((HO.ex fun u=>HO.Yr (vr=f u) (HO.Yk (l' u)))::os)) L l Q:=fun vr a w ha hw=>by
 obtain⟨u,hw⟩:=St.open hw;exact SP.k0 (h u) vr a w ha hw
theorem SP.k2{ι κ:Type}{f:ι→κ→Value}{l':ι→κ→List HO}(h:∀u v,SP P n ρ ((d,f u v)::σ) (St w0 hA hV ps (l' u v++os)) L l Q):∀vr,SP P n ρ ((d,vr)::σ) (St w0 hA hV ps ((HO.ex fun u=>HO.ex fun v=>HO.Yr (vr=f u v) (HO.Yk (l' u v)))::os)) L l Q:=fun vr a w ha hw=>by
 obtain⟨u,hw⟩:=St.open hw;exact SP.k1 (h u) vr a w ha hw
theorem SP.k3{ι κ μ:Type}{f:ι→κ→μ→Value}{l':ι→κ→μ→List HO}(h:∀u v z,SP P n ρ ((d,f u v z)::σ) (St w0 hA hV ps (l' u v z++os)) L l Q):∀vr,SP P n ρ ((d,vr)::σ) (St w0 hA hV ps ((HO.ex fun u=>HO.ex fun v=>HO.ex fun z=>HO.Yr (vr=f u v z) (HO.Yk (l' u v z)))::os)) L l Q:=fun vr a w ha hw=>by
 obtain⟨u,hw⟩:=St.open hw;exact SP.k2 (h u) vr a w ha hw
theorem fin{S R:Type}{F:S→Option (S⊕R)}{m:Nat}{o:S⊕R}{e r:R}(ho:some (Sum.inr e)=some o)(hr:next F m o=some r):e=r:=by cases ho;exact sI hr
theorem Yu{α β:Type}{xs:List α}{i:Int}{f:α→Option β}{r:β}(h:(elt xs i).bind f=some r):∃x,(0≤i∧xs[i.toNat]?=some x)∧f x=some r:=by
 obtain⟨x,h1,h2⟩:=bind_some h;exact⟨x,Zie h1,h2⟩
theorem Xp.nil{P:Program}{n:Fr}{σ:List (Nat×Value)}{A:World→Prop}:Xp P n σ A [] []:=trivial
theorem Xp.cons{P:Program}{n:Fr}{σ:List (Nat×Value)}{A:World→Prop}{t:Nat}{v:Value}{rs:List ResultVar}{vs:List Value}(h:find t σ=some v)(hr:Xp P n σ A rs vs):Xp P n σ A (.tmp t::rs) (v::vs):=⟨Xp.tmp h,hr⟩
class Y0(fn:Func)(rs:outParam (List ResultVar)):Prop where
 h:fn.results=rs.toArray
theorem QE.rt{fn:Func}{rs:List ResultVar}{vs:List Value}{K:Value→HO}[hr:Y0 fn rs](h:∀w,A w→St w0 hA hV ps os w)(hds:n.ds=[]:=by rfl)(hv:Xp P n σ A rs vs:=by repeat (first|exact Xp.nil|apply Xp.cons rfl))
    (hk:∀a b,All ps a→Sep a os b→(K (single vs)).p a b:=by first|exact fun _ _ _ _=>rfl|exact fun _ _ _ s=>⟨_,rfl,s⟩|exact fun _ _ _ s=>⟨_,_,rfl,s⟩|exact fun _ _ _ s=>⟨rfl,s⟩|exact fun _ _ _ s=>⟨_,_,_,rfl,s⟩) :
    QE n σ A (bodyPost P fn fun e w'=>∃v,e=.returned v∧Since w0 hA hV (K v).p w') .ret:=QE.Z89 hr.h hds hv fun w hw=>St.done hk (h w hw)
theorem XL.go{w:World}{f:FuncId}{fn:Func}{c:Code}{args:List Value}{K:Value→HO}(m:Nat)(hf:P.funcs[f]?=some fn)(sV:Sub hV (hp w))(hall:All ps hV)
    (h:YG w em hV→CP P ⟨m,[]⟩ none (slots 0 args) (St w em hV ps []) c (bodyPost P fn fun e w'=>∃v,e=.returned v∧Since w em hV (K v).p w')) (hb:fn.body=some c:=by rfl) (hn:fn.ntmps=m:=by rfl) (ha:Nat.ble args.length m=true:=by rfl):XL P f args.toArray em hV w K:=
 XL.of (n:=⟨m,[]⟩) hf hb ⟨hn,rfl⟩ ha (St.begin hall) (h ⟨sV,Dj.WM _⟩)
theorem aS{α:Type}{k:Kd α}{v:Value}{xs:List α}{ps:List HP}{h:Hp}(p:Xb k h v xs)(q:All ps h):All (Z9 k v xs::ps) h:=All.cons (x:=Z9 k v xs) p q
end
end Go.Q
namespace Go.Q
section
variable{w0 w:World}{hA hV:Hp}{ps:List HP}{os:List HO}{P:Program}{n:Fr}{ρ:Option Nat}{σ σ1:List (Nat×Value)}{Q:Cont}
theorem CP.ZeU{st:LoopState}{pe:Option Code}(hst:st≠.busy){g:Operand}{pt:Array Tmp}{asg body:Code}{f:FuncId}{caps:List Value}{X K:HO}(see:YG w0 hA hV)(hfn:((P.funcs[f]?).map fun fn=>fn.body.isSome && !(fn.name == "runtime.NumGoroutine"))=some true)
    (hx:ev σ g=some (.func (.func f) #[] caps.toArray)) (hσ:Z0M σ1 σ)
    (hc:∀l w hP h1,Sub hP (hp w)→Sub h1 (hp w)→Dj hP h1→All ps hP→(HO.and (Z1X l n.n σ1 pt asg body .ready none) X).p hP h1→XL P f (.func (.yield l) #[] #[]::caps).toArray h1 hP w (fun _=>HO.and (Z1X l n.n σ1 pt asg body st pe) K))
    (h:∀D,pe=none→QE ⟨n.n,mark D::n.ds⟩ σ (St w0 hA hV ps (Uv (mark D::n.ds)::K::os)) Q .normal)
    (h':∀D c,pe=some c→CP P ⟨n.n,mark D::n.ds⟩ none σ (St w0 hA hV ps (Uv (mark D::n.ds)::K::os)) c Q) :
    CP P n none σ (St w0 hA hV ps (Uv n.ds::X::os)) (.rangeFunc g pt asg body) Q:=fun a w ha hw=>by
 refine wpIn_rangeFunc fun fn hfn'=>?_;have h1:St w0 hA hV ps (ZlH w.heap.size::Uv n.ds::X::os) (w.alloc (.deferred (some []))):=hw.alloc _ (by simp[ZlH,bk]);have h2:St w0 hA hV ps (Uv (mark w.heap.size::n.ds)::X::os) (w.alloc (.deferred (some []))):=by
  refine St.imp (fun _ q=>q) (fun a b _ s=>?_) h1;obtain⟨k1,k2,dj,t1,t2,p,k3,k4,dj2,t3,t4,p2,q⟩:=s;exact⟨un k1 k3,k4,Dj.Xe (dj.sub (Sub.refl _) t4) dj2,Sub.Vl t1 (t3.trans t2),t4.trans t2,Marks.cons p p2 (dj.sub (Sub.refl _) t3),q⟩
 have h3:St w0 hA hV ps (Z1X (w.heap.size+1) n.n σ1 pt asg body .ready none::Uv (mark w.heap.size::n.ds)::X::os) ((w.alloc (.deferred (some []))).alloc (.loop { state :=.ready,pending:=none,fn,tmps:=a.tmps,params:=pt,assign:=asg,body,defers:=w.heap.size })):=
  h2.alloc _ ⟨_,by simp[bk];rfl,rfl,rfl,rfl,rfl,rfl,by
   have:=ha.sub hσ;exact⟨this.1,rfl,this.2.2⟩⟩
 have h4:St w0 hA hV ps (HO.and (Z1X (w.heap.size+1) n.n σ1 pt asg body .ready none) X::Uv (mark w.heap.size::n.ds)::os) ((w.alloc (.deferred (some []))).alloc (.loop { state :=.ready,pending:=none,fn,tmps:=a.tmps,params:=pt,assign:=asg,body,defers:=w.heap.size })):=by
  refine St.imp (fun _ q=>q) (fun a b _ s=>?_) h3;obtain⟨k1,k2,dj,t1,t2,p,k3,k4,dj2,t3,t4,p2,k5,k6,dj3,t5,t6,p3,q⟩:=s;exact⟨un k1 k5,un k3 k6,Dj.Xe (Dj.YH (dj.sub (Sub.refl _) t3) (dj.sub (Sub.refl _) (t6.trans t4))) (Dj.YH (dj2.sub (Sub.refl _) t5).symm dj3),Sub.Vl t1 (t5.trans (t4.trans t2)),Sub.Vl (t3.trans t2) (t6.trans (t4.trans t2)),
      ⟨k1,k5,dj.sub (Sub.refl _) (t5.trans t4),Sub.Xe _ _,Sub.YH (dj.sub (Sub.refl _) (t5.trans t4)),p,p3⟩,k3,k6,dj2.sub (Sub.refl _) t6,Sub.Xe _ _,Sub.YH (dj2.sub (Sub.refl _) t6),p2,q⟩
 obtain⟨W1,hW1⟩:∃W1,(w.alloc (.deferred (some []))).alloc (.loop { state :=.ready,pending:=none,fn,tmps:=a.tmps,params:=pt,assign:=asg,body,defers:=w.heap.size })=W1:=⟨_,rfl⟩
 rw[hW1]at h4;obtain⟨hP,k1,sV,sP,s1,dj,ap,hi,back⟩:=h4.split see;refine⟨w.heap.size+1,[mark w.heap.size],W1,{ target :=.fn (.func f) caps.toArray,args := #[.func (.yield (w.heap.size+1)) #[] #[]] },W1,f,(.func (.yield (w.heap.size+1)) #[] #[]::caps).toArray,W1,by rw[←hW1];exact run_enterLoop_outer _ _ _ _ _,?_,fun _ _=>trivial,?_,fun e=>(by cases e),Z5f ?_⟩
 ·simp only[resolve,ha.eval hx];simp[go_sem]
 ·simp[invoke,Z04 hfn (b:=default) (fv:=undef)]
 refine(hc _ _ hP k1 sP s1 dj ap hi).mono fun e w' he=>?_;obtain⟨v,rfl,hs⟩:=he;have h5:=back _ _ hs;have h6:=St.and h5;obtain⟨r,hr,e1,e2,kk⟩:=h6.Zge 0 rfl;refine⟨pe,_,by rw[run_endLoop hr (by rw[e1];exact hst),e2],?_⟩;have h7:=kk .exhausted pe;have he:Env ⟨n.n,mark w.heap.size::n.ds⟩ σ { a with defers:=[mark w.heap.size]++a.defers }:=⟨ha.1,by simp[ha.2.1],ha.2.2⟩
 have h8:St w0 hA hV ps (K::Uv (mark w.heap.size::n.ds)::os) (w'.putObj (w.heap.size+1) (.loop { r with state :=.exhausted,pending:=pe })):=by
  have:=h7.Zp1 1;simpa using this
 have h9:St w0 hA hV ps (Uv (mark w.heap.size::n.ds)::K::os) (w'.putObj (w.heap.size+1) (.loop { r with state :=.exhausted,pending:=pe })):=by
  refine St.imp (fun _ q=>q) (fun a b _ s=>?_) h8;obtain⟨k1,k2,dj,t1,t2,p,k3,k4,dj2,t3,t4,p2,q⟩:=s;exact⟨k3,un k1 k4,Dj.YH (dj.sub (Sub.refl _) t3).symm dj2,t3.trans t2,Sub.Vl t1 (t4.trans t2),p2,k1,k4,dj.sub (Sub.refl _) t4,Sub.Xe _ _,Sub.YH (dj.sub (Sub.refl _) t4),p,q⟩
 cases hpe:pe with
 |none=>subst hpe;exact h w.heap.size rfl _ _ he h9
 |some c=>subst hpe;exact h' w.heap.size c rfl _ _ he h9
theorem QE.Z2V(see:YG w0 hA hV)(i:Nat){b:Nat}{cs:List Value}{T:TypeId}{e:Exit}(hi:os[i]?=some (Zl b cs T))(h:QE n σ (St w0 hA hV (Ku b cs T::ps) (os.eraseIdx i)) Q e):QE n σ (St w0 hA hV ps os) Q e:=
 QE.imp (fun w hw=>hw.freeze i hi see.dj see.sub) h
def Z2Y(l:Nat)(LO:LoopState→Option Code→HO):Prop:=
 ∀{w0 w:World} {hA hV:Hp} {ps:List HP} {os:List HO} (i:Nat) (st:LoopState) (pe:Option Code),os[i]?=some (LO st pe)→St w0 hA hV ps os w →
  ∃r:Loop,w.heap[l]?=some (.loop r)∧r.state=st∧r.pending=pe∧∀st' pe',St w0 hA hV ps (os.set i (LO st' pe')) (w.putObj l (.loop { r with state:=st',pending:=pe' }))
theorem Z2Y.of{l m:Nat}{τ:List (Nat×Value)}{pt:Array Tmp}{asg body:Code}:Z2Y l (fun st pe=>Z1X l m τ pt asg body st pe):=fun i st pe hi h=>h.Zge i hi
theorem QE.ZlT{l:Nat}{LO:LoopState→Option Code→HO}(hL:Z2Y l LO){body:Code}{R:Ending→World→Prop}(i:Nat)(hi:os[i]?=some (LO .ready none))(h:CP P n (some l) σ (St w0 hA hV ps (os.set i (LO .busy none))) body (roundPost P l R)) :
    QE n σ (St w0 hA hV ps os) (Exit.then (fun a w2=>∃w3,(Instr.beginRound l).run P w2=.ok () w3∧body.wpIn (FF (some l)) 0 P (roundPost P l R) a w3) (fun _ _ _=>False)) .normal:=fun a w ha hw=>by
 obtain⟨r,hr,e1,e2,k⟩:=hL i _ _ hi hw;have:=k .busy none;refine⟨_,run_beginRound hr e1,h a _ ha ?_⟩;have e3:({ r with state :=.busy,pending:=none }:Loop)={ r with state :=.busy }:=by rw[←e2]
 rw[←e3];exact this
theorem RR.of{w0 w:World}{hA hV:Hp}{b:Bool}{x y:HO}(h:St w0 hA hV [] [y,x] w):RR w0 hA hV b x y (.returned (.bool b)) w:=by
 obtain⟨m,g,hN,hO,n1,n2,d,s1,s2,p,s⟩:=h;obtain⟨h1,h2,e,t1,t2,rr,h3,h4,e',t3,t4,r3,-⟩:=s;exact⟨_,rfl,m,g,hN,hO,n1,n2,d,s1,s2,rfl,h3,h1,(e.sub (Sub.refl _) t3).symm,t3.trans t2,t1,r3,rr⟩
theorem QE.Zp4{l:Nat}{LO:LoopState→Option Code→HO}(hL:Z2Y l LO){J:HO}(i:Nat){st:LoopState}(hi:os[i]?=some (LO st none))(h:∀w,St w0 hA hV ps (os.set i (LO .ready none)) w→St w0 hA hV [] [J,LO .ready none] w) :
    QE n σ (St w0 hA hV ps os) (roundPost P l (RR w0 hA hV true (LO .ready none) J)) .normal:=fun a w ha hw=>by
 obtain⟨r,hr,e1,e2,k⟩:=hL i _ _ hi hw;exact⟨_,_,run_endRound none hr,RR.of (h _ (k .ready none))⟩
theorem QE.Zp5{l:Nat}{LO:LoopState→Option Code→HO}(hL:Z2Y l LO){J:HO}(i:Nat){st:LoopState}(hi:os[i]?=some (LO st none))(h:∀w,St w0 hA hV ps (os.set i (LO .done (some .ret))) w→St w0 hA hV [] [J,LO .done (some .ret)] w) :
    QE n σ (St w0 hA hV ps os) (roundPost P l (RR w0 hA hV false (LO .done (some .ret)) J)) .ret:=fun a w ha hw=>by
 obtain⟨r,hr,e1,e2,k⟩:=hL i _ _ hi hw;exact⟨_,_,run_endRound (some .ret) hr,RR.of (h _ (k .done (some .ret)))⟩
def lst:Bool→LoopState|true =>.done|false =>.ready
def lpe:Bool→Option Code|true=>some .ret|false=>none
theorem CP.ZlU{S X γ:Type}{J:S→HO}{Y:S×Bool→X→Option ((S×Bool)×Bool)}{s0 sf:S}{lf:Bool}{E:X→List Value→HP}{g:Operand}{pt:List Tmp}{asg body:Code}{f:FuncId}{caps:List Value}{X1 X2:Option γ}{r:γ}(see:YG w0 hA hV)
    (hfn:((P.funcs[f]?).map fun fn=>fn.body.isSome && !(fn.name == "runtime.NumGoroutine"))=some true) (hx:ev σ g=some (.func (.func f) #[] caps.toArray)) (hσ:Z0M σ1 σ) (hlt:(pt.all fun p=>Nat.blt p n.n)=true) (hE:∀x vals h,(E x vals).p h→vals.length=pt.length)
    (hY:∀s x,Y (s,true) x=none)
    (hf:∀(lY:Nat) (I:S×Bool→HO) (w:World) (hP h1:Hp),Sub hP (hp w)→Sub h1 (hp w)→Dj hP h1→All ps hP→(I (s0,false)).p hP h1→Yields P lY hP Y I E→XL P f (.func (.yield lY) #[] #[]::caps).toArray h1 hP w (fun v=>HO.Yr (v=.tuple #[]) (HO.Yk [I (sf,lf)])))
    (hb:∀(lY:Nat) (LO:LoopState→Option Code→HO),Z2Y lY LO→∀(s:S) (x:X) (t:S) (l b:Bool) (vals:List Value),Y (s,false) x=some ((t,l),b)→∀(w:World) (hP h1:Hp),Sub hP (hp w)→Sub h1 (hp w)→Dj hP h1→All ps hP→(E x vals).p hP →
     CP P ⟨n.n,[]⟩ (some lY) (Z4g (pt.zip vals) σ1) (St w h1 hP ps [J s,LO .ready none]) asg (Exit.then (fun a w2=>∃w3,(Instr.beginRound lY).run P w2=.ok () w3∧body.wpIn (FF (some lY)) 0 P (roundPost P lY (RR w h1 hP b (LO (lst l) (lpe l)) (J t))) a w3) (fun _ _ _=>False)))
    (ho:(if lf=true then X1 else X2)=some r)
    (h1:∀D,X1=some r→QE ⟨n.n,mark D::n.ds⟩ σ (St w0 hA hV ps (J sf::Uv (mark D::n.ds)::os)) Q .ret)
    (h2:∀D,X2=some r→QE ⟨n.n,mark D::n.ds⟩ σ (St w0 hA hV ps (J sf::Uv (mark D::n.ds)::os)) Q .normal) :
    CP P n none σ (St w0 hA hV ps (J s0::Uv n.ds::os)) (.rangeFunc g pt.toArray asg body) Q:=by
 have hsw:∀{x y:HO} {w:World},St w0 hA hV ps (x::y::os) w→St w0 hA hV ps (y::x::os) w:=fun {x y w} hw=>by
  refine St.imp (fun _ q=>q) (fun a b _ s=>?_) hw;obtain⟨k1,k2,dj,t1,t2,p,k3,k4,dj2,t3,t4,p2,q⟩:=s;exact⟨k3,un k1 k4,Dj.YH (dj.sub (Sub.refl _) t3).symm dj2,t3.trans t2,Sub.Vl t1 (t4.trans t2),p2,k1,k4,dj.sub (Sub.refl _) t4,Sub.Xe _ _,Sub.YH (dj.sub (Sub.refl _) t4),p,q⟩
 refine CP.imp (fun w hw=>hsw hw) (CP.ZeU (st:=lst lf) (pe:=lpe lf) (by cases lf<;>simp[lst]) see hfn hx hσ (K:=J sf) (fun l w hP h1 sP s1 dj ap hi=>?_) (fun D hl=>QE.imp (fun w hw=>hsw hw) (h2 D ?_)) (fun D c hl=>?_))
 ·have:=hf l (fun s=>HO.and (Z1X l n.n σ1 pt.toArray asg body (lst s.2) (lpe s.2)) (J s.1)) w hP h1 sP s1 dj ap hi ?_
  ·refine this.mono fun e w' he=>?_;obtain⟨v,rfl,m,fr,hN,hO,n1,n2,d,t1,t2,q,h3,h4,-,u1,-,p,-⟩:=he;exact⟨v,rfl,m,fr,hN,hO,n1,n2,d,t1,t2,HO.mono _ _ _ _ _ (Sub.refl _) u1 p⟩
  ·rintro⟨s,sl⟩ x ⟨t,tl⟩ b vals hy w2 hP2 h2 sV sP2 s2 dj2 hE2 hi2;cases sl with
   |true=>rw[hY]at hy;cases hy
   |false=>
    have hlen:=hE _ _ _ hE2;have hz:((pt.zip vals).all fun p=>Nat.blt p.1 n.n)=true:=by
     rw[List.all_eq_true]at hlt ⊢;intro p hp;exact hlt p.1 (List.of_mem_zip hp).1
    refine Round.of rfl hlen hz hi2 s2 (ap.mono sV) ?_;refine CP.imp (fun w hw=>?_) (hb l (fun st pe=>Z1X l n.n σ1 pt.toArray asg body st pe) Z2Y.of s x t tl b vals hy w2 hP2 h2 sP2 s2 dj2 (ap.mono sV) hE2);refine St.imp (fun _ q=>q) (fun a b _ s=>?_) hw;obtain⟨k1,k2,dj,t1,t2,p,k3,k4,dj2,t3,t4,p2,q⟩:=s;exact⟨k3,k1,(dj.sub (Sub.refl _) t3).symm,t3.trans t2,t1,p2,k1,em,Dj.WM _,Sub.refl _,Sub.em _,p,trivial⟩
 ·cases lf with
  |true=>simp[lpe]at hl
  |false=>simpa using ho
 ·cases lf with
  |false=>simp[lpe]at hl
  |true=>
   simp only[lpe,Option.some.injEq]at hl;subst hl;exact CP.imp (fun w hw=>hsw hw) (CP.ret (h1 D (by simpa using ho)))
end
end Go.Q
namespace Go.Q
open Go.MapKept
def Z23{β:Type}:List (Int×β)→Int→List (Int×β)
 | [],_=>[]
 |p::r,k=>if p.1=k then r else p::Z23 r k
def mup{β:Type}(l:List (Int×β))(k:Int)(u:β):List (Int×β):=l.map fun p=>if p.1=k then(k,u)else p
theorem Z6v{β:Type}{ik:IntKind}{kv:β→Value}{k:Int}:∀(es:List MapEntry) (l:List (Int×β)) (i:Nat),es.map (fun e=>(e.key,e.val))=l.map (fun p=>(Value.int ik p.1,kv p.2)) →
    (Instr.findNow (.int ik) (.int ik k) es i=some none∧Z23 l k=l∧∀e∈es,e.key≠.int ik k)∨∃j v,Instr.findNow (.int ik) (.int ik k) es i=some (some (i+j,v))∧Z23 l k=l.eraseIdx j∧∃e,es[j]?=some e∧e.key=.int ik k
 | [],[],i,_ =>.inl ⟨rfl,rfl,by simp⟩
 |e::es,p::l,i,h=>by
  simp only[List.map_cons,List.cons.injEq,Prod.mk.injEq]at h;obtain⟨⟨h1,h2⟩,h3⟩:=h;by_cases hk:p.1=k
  ·exact .inr ⟨0,kv p.2,by simp[Instr.findNow,Instr.sameNow,h1,hk,h2],by simp[Z23,hk],e,rfl,by rw[h1,hk]⟩
  ·have hs:Instr.sameNow (.int ik) (.int ik k) e.key=some false:=by simp[Instr.sameNow,h1,Ne.symm hk]
   rcases Z6v (k:=k) es l (i+1) h3 with ⟨b,c,c2⟩|⟨j,v,b,c,d⟩
   ·exact .inl ⟨by simp[Instr.findNow,hs,b],by simp[Z23,hk,c],fun x hx=>by
     rcases List.mem_cons.1 hx with rfl|hx
     ·rw[h1];simpa using hk
     ·exact c2 x hx⟩
   ·exact .inr ⟨j+1,v,by simp[Instr.findNow,hs,b];omega,by simp[Z23,hk,c],by simpa using d⟩
 | [],_::_,_,h=>by simp at h
 | _::_,[],_,h=>by simp at h
section
variable{P:Program}{n:Fr}{ρ:Option Nat}{σ:List (Nat×Value)}{w0:World}{hA hV:Hp}{ps:List HP}{os:List HO}{L l:List Oper}{Q:Cont}{d:Nat}{dd:Option Nat}{t ty tr kt et:TypeId}{x y z:Operand}{pos:String}{af:Array Edge}{g:Option (Nat×Bool)}{β:Type}{kv:β→Value}{ik:IntKind}{m left:List (Int×β)}{k:Int}{z0:β}{b r:Nat}{cur:Option (Int×β)}
theorem Val.ZtN(see:YG w0 hA hV)(i:Nat)(hi:os[i]?=some (Z06 b ik kv m))(hu:P.underlying t=some (.map kt et))(hx:ev σ x=some (.map (some b))):Val P n σ (St w0 hA hV ps os) ⟨dd,.call ⟨.builtin .len,#[x],#[t]⟩,tr,pos,af,g⟩ (.int .i64 (m.length:Int)):=fun a w ha hw=>by
 obtain⟨es,clock,hb,hm,-,-⟩:=St.own i hi see.sub see.dj hw;have hb':w.heap[b]?=some (.map es clock):=hb;have hl:es.size=m.length:=by have:=congrArg List.length hm;simpa using this
 simp[execOp,resolve,invoke,builtin,ha.eval hx,Builtin.len_,run_underlying hu,goInt,MapKept.run_getObj_map (P:=P) hb',hl]
theorem SP.ZtO{A A':World→Prop}{o:Oper}(hg:gd L σ o.guard=some true)(hd:o.dst=none)
    (hv:∀a w,Env n σ a→A w→∃v w',(execOp a.eval o).run P w=.ok (.value v) w'∧A' w')
    (h:SP P n ρ σ A' L l Q):SP P n ρ σ A L (o::l) Q:=fun a w ha hw=>by
 obtain⟨v,w',hr,hA⟩:=hv a w ha hw;unfold wpListIn;rw[if_pos (ha.wanted hg)];refine⟨fun _ _=>trivial,?_⟩;rw[TP hr (fun d e=>by cases e),Oper.uponIn_value,hd];exact h _ _ ha hA
theorem SP.delete(see:YG w0 hA hV)(i:Nat)(hi:os[i]?=some (Z06 b ik kv m))(hu:P.underlying t=some (.map kt et))(hk:P.underlying kt=some (.int ik))
    (hg:gd L σ g=some true) (hx:ev σ x=some (.map (some b))) (hy:ev σ y=some (.int ik k))
    (h:SP P n ρ σ (St w0 hA hV ps (os.set i (Z06 b ik kv (Z23 m k)))) L l Q):SP P n ρ σ (St w0 hA hV ps os) L (⟨none,.call ⟨.builtin .delete,#[x,y],#[t,ty]⟩,tr,pos,af,g⟩::l) Q:=by
 refine SP.ZtO hg rfl (fun a w ha hw=>?_) h;obtain⟨hP,hh,⟨es,clock,hb,hm,hc,hn⟩,sP,sh,ap,back⟩:=hw.at i hi see
 have hb':w.heap[b]?=some (.map es clock):=sh _ _ hb;have hkey:IsKey (.int ik) (.int ik k):=by simp[IsKey]
 have hck:=run_checkKey (P:=P) (w:=w) hk hkey es.isEmpty 9999;have done:∀(es':Array MapEntry),(Builtin.delete_ #[t,ty] tr #[.map (some b),.int ik k]).run P w=.ok (.tuple #[]) { w with heap:=w.heap.setIfInBounds b (.map es' clock) } →
     es'.toList.map (fun e=>(e.key,e.val))=(Z23 m k).map (fun p=>(Value.int ik p.1,kv p.2))→(∀e∈es'.toList,e.born<clock)→(es'.toList.map MapEntry.born).Nodup →
     ∃v w',(execOp a.eval ⟨none,.call ⟨.builtin .delete,#[x,y],#[t,ty]⟩,tr,pos,af,g⟩).run P w=.ok (.value v) w'∧St w0 hA hV ps (os.set i (Z06 b ik kv (Z23 m k))) w':=by
  intro es' hr h1 h2 h3;obtain⟨q1,q2⟩:=heap_set (o' :=.map es' clock) hb';refine⟨.tuple #[],{ w with heap:=w.heap.setIfInBounds b (.map es' clock) },by simp[execOp,resolve,invoke,builtin,ha.eval hx,ha.eval hy,hr],back { w with heap:=w.heap.setIfInBounds b (.map es' clock) } _ (bk b (.map es' clock)) ⟨rfl,rfl,rfl,by simp⟩ (fun c hc0 hcn=>q2 c fun e=>by subst e;rw[hb]at hcn;cases hcn) ⟨es',clock,by simp[bk],h1,h2,h3⟩ (fun c o e=>?_) (fun c hcn=>?_)⟩
  ·unfold bk at e;split at e
   ·rename_i hcb;subst hcb;simp at e;subst e;exact q1
   ·cases e
  ·unfold bk at hcn;split at hcn
   ·rename_i hcb;subst hcb;exact .inl (by rw[hb];simp)
   ·exact absurd rfl hcn
 rcases Z6v (k:=k) es.toList m 0 hm with ⟨h2,h3,-⟩|⟨j,v,h2,h4,e,he,hek⟩
 ·have hf:=run_findKey (P:=P) (w:=w) hk h2;exact done es (by simp[Builtin.delete_,run_underlying hu,MapKept.run_getObj_map (P:=P) hb',hck,hf,MapKept.run_setObj_map (P:=P) _ hb']) (by rw[h3];exact hm) hc hn
 ·have hf:=run_findKey (P:=P) (w:=w) hk h2;have hj:j<es.size:=by have:=Vp he;simpa using this
  have hl:(es.eraseIdxIfInBounds j).toList=es.toList.eraseIdx j:=by
   unfold Array.eraseIdxIfInBounds;rw[dif_pos hj];simp
  refine done (es.eraseIdxIfInBounds j) ?_ ?_ ?_ ?_
  ·simp[Builtin.delete_,run_underlying hu,MapKept.run_getObj_map (P:=P) hb',hck,hf,MapKept.run_setObj_map (P:=P) _ hb']
  ·rw[hl,h4,J6,hm,J6]
  ·intro e he;rw[hl]at he;exact hc e ((List.eraseIdx_sublist _ _).subset he)
  ·rw[hl];exact hn.sublist ((List.eraseIdx_sublist _ _).map _)
theorem Val.Zkv(see:YG w0 hA hV)(i:Nat)(hi:os[i]?=some (K7 r b ik kv m left cur))(hu:P.underlying t=some (.map kt et))(hk:P.underlying kt=some (.int ik)){cs:List Value}{s bb:Nat}(hz:(P.info? et).map (fun i=>((i.zero.map fun z=>z.cells.toList),i.size,i.bytes))=some (some cs,s,bb))(hzz:(P.info? et).bind (·.zero)=some (kv z0))
    (hx:ev σ x=some (.map (some b))) (hy:ev σ y=some (.int ik k)):Val P n σ (St w0 hA hV ps os) ⟨dd,.lookup t x y false,tr,pos,af,g⟩ (kv ((Jw m k).getD z0)):=fun a w ha hw=>by
 have hw':St w0 hA hV ps (os.set i (Z06 b ik kv m)) w:=by
  refine St.Z8G i hi (fun a h ⟨es,clock,since,seen,c0,h1,h2,h3,h4,h5,_⟩=>⟨es,clock,h1,h3,h4,h5⟩) hw
 exact Val.lookup see i (ZdT _ hi) hu hk hz hzz hx hy a w ha hw'
theorem SP.ZeV(see:YG w0 hA hV)(i:Nat)(hi:os[i]?=some (K7 r b ik kv m left cur))(hu:P.underlying t=some (.map kt et))(hk:P.underlying kt=some (.int ik)){u:β}(hnd:(m.map (·.1)).Nodup∧(Jw m k).isSome=true)
    (hg:gd L σ g=some true) (hx:ev σ x=some (.map (some b))) (hy:ev σ y=some (.int ik k)) (hz:ev σ z=some (kv u))
    (h:SP P n ρ σ (St w0 hA hV ps (os.set i (K7 r b ik kv (mup m k u) (mup left k u) none))) L l Q):SP P n ρ σ (St w0 hA hV ps os) L (⟨none,.mapUpdate t x y z,tr,pos,af,g⟩::l) Q:=by
 classical
 refine SP.act hg rfl (fun a w ha hw=>?_) h;obtain⟨hP,hh,⟨es,clock,since,seen,c0,hb,hr,hm,hc,hn,hold,hsc,hsk,hl,-⟩,sP,sh,ap,back⟩:=hw.at i hi see
 have hb':w.heap[b]?=some (.map es clock):=sh _ _ hb;have hbr:b≠r:=fun e=>by subst e;rw[hb]at hr;cases hr
 have hkey:IsKey (.int ik) (.int ik k):=by simp[IsKey]
 have hck:=run_checkKey (P:=P) (w:=w) hk hkey false 9999;rcases Z2o (k:=k) es.toList m 0 hm with ⟨h1,-,-⟩|⟨j,v,h1,h2,⟨e,he,hek⟩,-⟩
 ·rw[h1]at hnd;simp at hnd
 have hf:=run_findKey (P:=P) (w:=w) hk h2;have he':es[j]?=some e:=by simpa using he
 have hks:(es.toList.map (·.key)).Nodup:=by
  have:es.toList.map (·.key)=(m.map (·.1)).map (Value.int ik):=by
   have:=congrArg (List.map Prod.fst) hm;simpa[Function.comp_def]using this
  rw[this];exact hnd.1.map _ (fun a b hab e=>hab (by simpa using e))
 let f:MapEntry→MapEntry:=fun e=>if e.key=.int ik k then { e with key :=.int ik k,val:=kv u }else e
 have hes:(es.modify j fun e=>{ e with key :=.int ik k,val:=kv u }).toList=es.toList.map f:=by
  apply List.ext_getElem?;intro q;simp only[Array.getElem?_toList,Array.getElem?_modify,List.getElem?_map];by_cases hq:j=q
  ·subst hq;simp[he',f,hek]
  ·rw[if_neg hq];cases hq2:es[q]? with
   |none=>rfl
   |some e2=>
    have:e2.key≠.int ik k:=fun h3=>by
     have hq3:(es.toList.map (·.key))[q]?=some (.int ik k):=by simp[hq2,h3]
     have hj3:(es.toList.map (·.key))[j]?=some (.int ik k):=by simp[he',hek]
     exact hq ((List.getElem?_inj (Vp hj3) hks).1 (hj3.trans hq3.symm))
    simp[f,this]
 have hfb:∀e,(f e).born=e.born:=fun e=>by simp only[f];split<;>rfl
 have hfk:∀l:List MapEntry,∀m:List (Int×β),l.map (fun e=>(e.key,e.val))=m.map (fun p=>(Value.int ik p.1,kv p.2))→(l.map f).map (fun e=>(e.key,e.val))=(mup m k u).map (fun p=>(Value.int ik p.1,kv p.2)):=by
  intro l;induction l with
  |nil=>intro m hm;cases m with
   |nil=>rfl
   |cons _ _=>simp at hm
  |cons e l ih=>intro m hm;cases m with
   |nil=>simp at hm
   |cons p m=>
    simp only[List.map_cons,List.cons.injEq,Prod.mk.injEq]at hm;simp only[List.map_cons,mup,List.cons.injEq];refine⟨?_,by simpa[mup]using ih m hm.2⟩;by_cases hp:p.1=k
    ·simp[f,hm.1.1,hp]
    ·simp[f,hm.1.1,hm.1.2,hp]
 generalize hes':(es.modify j fun e=>{ e with key :=.int ik k,val:=kv u })=es' at hes
 have key:(K7 r b ik kv (mup m k u) (mup left k u) none).p hP (fun c=>if c=b then some (.map es' clock)else hh c):=by
  refine⟨es',clock,since,seen,c0,by simp,?_,?_,?_,?_,?_,hsc,hsk,?_,fun p ep=>by cases ep⟩
  ·show(if r=b then _ else hh r)=_;rw[if_neg (Ne.symm hbr)];exact hr
  ·rw[hes];exact hfk _ _ hm
  ·intro e1 h5;rw[hes]at h5;obtain⟨e2,h6,rfl⟩:=List.mem_map.1 h5;rw[hfb];exact hc _ h6
  ·rw[hes,List.map_map,show MapEntry.born∘f=MapEntry.born from funext hfb];exact hn
  ·intro e1 h5;rw[hes]at h5;obtain⟨e2,h6,rfl⟩:=List.mem_map.1 h5;rw[hfb];exact hold _ h6
  ·have:(leftOf es' seen).toList=(leftOf es seen).toList.map f:=by
    unfold leftOf;rw[Array.toList_filter,Array.toList_filter,hes,List.filter_map];congr 1;exact List.filter_congr fun e _=>by simp[hfb]
   rw[this];exact hfk _ _ hl
 obtain⟨q1,q2⟩:=heap_set (o' :=.map es' clock) hb';have hrun:(Instr.mapUpdate t (.map (some b)) (.int ik k) (kv u)).run P w=.ok () { w with heap:=w.heap.setIfInBounds b (.map es' clock) }:=by
  subst hes';simp[Instr.mapUpdate,run_underlying hu,MapKept.run_getObj_map (P:=P) hb',hck,hf,MapKept.run_setObj_map (P:=P) _ hb',he',hek,Instr.keyThatStays,Instr.sameBits]
 refine⟨{ w with heap:=w.heap.setIfInBounds b (.map es' clock) },by simp[execOp,ha.eval hx,ha.eval hy,ha.eval hz,hrun],back _ _ _ ⟨rfl,rfl,rfl,by simp⟩ (fun c hc0 hcn=>q2 c fun e=>by subst e;rw[hb]at hcn;cases hcn) key (fun c o ec=>?_) (fun c hcn=>?_)⟩
 ·by_cases h:c=b
  ·subst h;simp at ec;subst ec;exact q1
  ·simp[h]at ec;show(w.heap.setIfInBounds b _)[c]?=some o;rw[q2 c h];exact sh _ _ ec
 ·by_cases h:c=b
  ·subst h;exact .inl (by rw[hb];simp)
  ·simp[h]at hcn;exact .inl hcn
end
theorem K7.Zp6{β:Type}{r b:Nat}{ik:IntKind}{kv:β→Value}{m left:List (Int×β)}{cur:Option (Int×β)}:∀a h,(K7 r b ik kv m left cur).p a h→(Z06 b ik kv m).p a h:=
 fun _ _ ⟨es,clock,since,seen,c0,h1,h2,h3,h4,h5,_⟩=>⟨es,clock,h1,h3,h4,h5⟩
def Z3p{β:Type}(m:List (Int×β)):Bool:=decide (m.map (·.1)).Nodup&&m.all (fun p=>decide (-9223372036854775808≤p.1∧p.1≤9223372036854775807))&&decide (m.length≤1000000)
def KC{β:Type}(m:List (Int×β)):List Int:=(m.map (·.1)).mergeSort fun x y=>decide (x≤y)
open Go.WideElems Go.Maps in
theorem ZlV{P:Program}{kt b:Nat}{β:Type}{kv:β→Value}{m:List (Int×β)}{w:World}{a:Hp}(hk:P.underlying kt=some (.int .i64))(h:(Z06 b .i64 kv m).p a (hp w))(ok:Z3p m=true) :
    ∃D0:DataW Unit,w.ownsMap P kt (fun _=>some (.nil,[])) b m.length D0∧(intKeys D0).Perm (m.map (·.1))∧Maps.size D0=m.length:=by
 obtain⟨es,clock,hb,hm,hc,hn⟩:=h;simp only[Z3p,Bool.and_eq_true,decide_eq_true_eq,List.all_eq_true]at ok;obtain⟨⟨hnd,hwf⟩,hlen⟩:=ok;have hl:es.size=m.length:=by have:=congrArg List.length hm;simpa using this
 have hrd:∀(l:List MapEntry) (m:List (Int×β)),l.map (fun e=>(e.key,e.val))=m.map (fun p=>(Value.int .i64 p.1,kv p.2))→(∀p∈m,-9223372036854775808≤p.1∧p.1≤9223372036854775807) →
     (∀x∈l,∃y,rd (H:=Unit) P kt (fun _=>some (.nil,[])) x=some y)∧l.map (rg (H:=Unit) P kt (fun _=>some (.nil,[])))=m.map (fun p=>(Lit.int .i64 p.1,DataW.nil)):=by
  intro l;induction l with
  |nil=>intro m hm _;cases m with
   |nil=>exact⟨by simp,rfl⟩
   |cons _ _=>simp at hm
  |cons e l ih=>intro m hm hw;cases m with
   |nil=>simp at hm
   |cons p m=>
    simp only[List.map_cons,List.cons.injEq,Prod.mk.injEq]at hm;obtain⟨i1,i2⟩:=ih m hm.2 fun q hq=>hw q (List.mem_cons_of_mem _ hq);have hp:=hw p (by simp);have hkey:keyOf P kt e.key=some (.int .i64 p.1):=by
     rw[hm.1.1];have e1:IntKind.i64.min = -9223372036854775808:=rfl;have e2:IntKind.i64.max=9223372036854775807:=rfl;simp[keyOf,hk,mapKey,Lit.wf,e1,e2];omega
    have hr:rd (H:=Unit) P kt (fun _=>some (.nil,[])) e=some (.int .i64 p.1,.nil):=by simp[rd,hkey]
    exact⟨fun x hx=>by
     rcases List.mem_cons.1 hx with rfl|hx
     ·exact⟨_,hr⟩
     ·exact i1 x hx,by simp only[List.map_cons,i2,rg_of hr]⟩
 obtain⟨r1,r2⟩:=hrd _ _ hm hwf;refine⟨_,⟨es,clock,hb,⟨by simp only[maxLen];omega,⟨hc,hn,?_⟩,r1⟩,by omega,rfl⟩,?_,?_⟩
 ·have:es.toList.map (·.key)=(m.map (·.1)).map (Value.int .i64):=by
   have:=congrArg (List.map Prod.fst) hm;simpa[Function.comp_def]using this
  rw[this];exact hnd.map _ (fun a b hab e=>hab (by simpa using e))
 ·have h1:=(WideShapes.sorted_perm (es.toList.map (rg (H:=Unit) P kt (fun _=>some (.nil,[]))))).map (fun p=>intOf p.1);refine h1.trans ?_;rw[r2,List.map_map];exact .of_eq (List.map_congr_left fun p _=>rfl)
 ·show List.length _=_;rw[(WideShapes.sorted_perm _).length_eq,List.length_map];simpa using hl
theorem ZaS{ik:IntKind}{a:Hp}:∀(xs:List Int),Flat (Uz ik) a (xs.map fun x=>Value.int ik x) xs
 | []=>rfl
 |x::xs=>⟨[.int ik x],xs.map fun x=>Value.int ik x,rfl,rfl,ZaS xs⟩
theorem ZeW{w w':World}{hV:Hp}{v:Value}{α:Type}{k:Kd α}{T:TypeId}{xs:List α}{cells:List Value}(hr:w'.ownsRow w.heap.size T k.sz v xs.length cells)(hb:RowKit.Below w.heap.size w w')(hf:Flat k em cells xs) :
    ∃u,Ending.returned v=.returned u∧Since w em hV ((fun r=>HO.ex fun u:Value=>HO.Yr (r=u) (HO.Yk [Zg k T u xs])) u).p w':=by
 obtain⟨hl,hr⟩:=hr;have keep:∀b o,hp w b=some o→em b=none→hp w' b=some o:=fun b o e _=>(hb.block b (J4 e)).trans e;rcases hr with ⟨rfl,hn⟩|⟨g,cap,cur,rfl,hg,hgb,h1,h2,h3,h4⟩
 ·exact⟨_,rfl,⟨hb.os,hb.tape,hb.output,hb.size⟩,keep,em,em,fun _ _ _=>rfl,fun _ _ _=>rfl,Dj.YM _,Sub.em _,Sub.em _,_,rfl,em,em,Dj.YM _,Sub.em _,Sub.em _,⟨cells,hf.mono (Sub.em _),hl,.inl ⟨rfl,hn⟩⟩,trivial⟩
 ·refine⟨_,rfl,⟨hb.os,hb.tape,hb.output,hb.size⟩,keep,em,bk g (.cells cur T (0,0)),fun _ _ _=>rfl,fun b hb _=>?_,Dj.YM _,Sub.em _,fun b o e=>?_,_,rfl,bk g (.cells cur T (0,0)),em,Dj.WM _,Sub.refl _,Sub.em _,⟨cells,hf.mono (Sub.em _),hl,.inr ⟨g,cap,cur,rfl,by simp[bk],h1,h2,h3,h4⟩⟩,trivial⟩
  ·have:b≠g:=by omega
   simp[bk,this]
  ·unfold bk at e;split at e
   ·rename_i h;subst h;simp at e;subst e;exact hgb
   ·cases e
end Go.Q
namespace Go.Q
section
variable{P:Program}{n:Fr}{ρ:Option Nat}{σ:List (Nat×Value)}{A:World→Prop}{w0 w:World}{hA hV:Hp}{ps:List HP}{os:List HO}{d:Nat}{dd:Option Nat}{t e T T' tr:TypeId}{x y:Operand}{pos:String}{af:Array Edge}{g:Option (Nat×Bool)}{v u p:Value}{α β:Type}{k:Ko α}{kd:Kd β}{xs:List α}{x0:α}{get:α→List β}{set:α→List β→α}{off m len:Nat}{j:Int}
theorem ZlQ.flat{s:Value}{a h H:Hp}(r:(ZlQ k T v xs j off s).p a h)(sa:Sub a H)(sh:Sub h H):(Zg k.kd T v xs).p H H:=Vf.flat r.1 sa sh
end
theorem Flat.take{α:Type}{k:Kd α}{a:Hp}:∀{xs:List α} {cells:List Value} (n:Nat),Flat k a cells xs→Flat k a (cells.take (n*k.sz)) (xs.take n)
 | [],_,n,f=>by rw[show _=[] from f,List.take_nil,List.take_nil];rfl
 |x::xs,_,0,_=>by rw[Nat.zero_mul,List.take_zero,List.take_zero];rfl
 |x::xs,_,n+1,⟨cs,rest,e,r,f⟩=>⟨cs,rest.take (n*k.sz),by
     have:=k.len _ _ _ r;rw[e,show(n+1)*k.sz=cs.length+n*k.sz by rw[Nat.add_mul,this];omega,List.take_length_add_append],r,Flat.take n f⟩
theorem VJ.pre{α:Type}{k:Ko α}{a:Hp}:∀{cs:List (List Value)} {xs:List α} {h:Hp} (n:Nat),(VJ k cs xs).p a h→(VJ k (cs.take n) (xs.take n)).p a h
 | _,_,_,0,_=>by rw[List.take_zero,List.take_zero];trivial
 | [],[],_,n+1,_=>trivial
 | _::_,_::_,_,n+1,⟨h1,h2,d,s1,s2,p,q⟩=>⟨h1,h2,d,s1,s2,p,VJ.pre n q⟩
 | [],_::_,_,_+1,h=>h.elim
 | _::_,[],_,_+1,h=>h.elim
section
variable{P:Program}{n:Fr}{ρ:Option Nat}{σ:List (Nat×Value)}{w0 w:World}{hA hV:Hp}{ps:List HP}{os:List HO}{L l:List Oper}{Q:Cont}{d:Nat}{t e tr:TypeId}{x y:Operand}{pos:String}{af:Array Edge}{g:Option (Nat×Bool)}{α:Type}{v:Value}{xs:List α}{ik:IntKind}{z:Int}
end
end Go.Q
namespace Go.Q
section
variable{P:Program}{n m:Fr}{ρ:Option Nat}{σ τ:List (Nat×Value)}{A B:World→Prop}{L l:List Oper}{Q:Cont}{d:Nat}{a:Act}{f:FuncId}{fn:Func}{c:Code}{vals caps:List Value}
def Ziv(P:Program)(ρ:Option Nat)(L l:List Oper)(Q:Cont)(d:Nat)(a:Act):Ending→World→Prop:=fun e w=>∃v,e=.returned v∧wpListIn (FF ρ) 0 P L.toArray Q l (a.put (some d) v) w
theorem SP.Z0H{tr:TypeId}{x:Operand}{pos:String}{af:Array Edge}{gu:Option (Nat×Bool)}{ar:Array Operand}{ats:Array TypeId}(m:Nat)(hf:P.funcs[f]?=some fn)(hfn:((P.funcs[f]?).map fun fn=>fn.body.isSome && !(fn.name == "runtime.NumGoroutine"))=some true)
    (hg:gd L σ gu=some true) (hx:ev σ x=some (.func (.func f) #[] caps.toArray)) (has:evs σ ar.toList=some vals) (hb:fn.body=some c) (hk:fn.ntmps=m) (hl:Nat.ble (vals++caps).length m=true)
    (h:∀a,Env n σ a→CP P ⟨m,[]⟩ none (slots 0 (vals++caps)) A c (bodyPost P fn (Ziv P ρ L l Q d a))):SP P n ρ σ A L (⟨some d,.call ⟨.value x,ar,ats⟩,tr,pos,af,gu⟩::l) Q:=fun a w ha hw=>by
 unfold wpListIn;rw[if_pos (ha.wanted hg)];have hm:ar.map a.eval=vals.toArray:=by rw[←Array.toArray_toList (xs:=ar.map a.eval),Array.toList_map,ha.Z1i has]
 have hr:(execOp a.eval ⟨some d,.call ⟨.value x,ar,ats⟩,tr,pos,af,gu⟩).run P w=.ok (.enter f (vals++caps).toArray) w:=by
  simp[execOp,resolve,ha.eval hx,Deferred.ofValue,invoke,hm,Z04 hfn (b:=default) (fv:=undef)]
 refine⟨fun _ _=>trivial,?_⟩;rw[TP hr (fun d e=>by cases e),Oper.uponIn_enter];refine⟨fun h=>(by cases h),Z5f ?_⟩;have hc:=calls_of_wp hf hb (wpIn_wide.1 (h a ha _ _ (Env.enter (n:=⟨m,[]⟩) ⟨hk,rfl⟩ hl) hw));exact hc.mono fun e w' ⟨v,e1,hs⟩=>by subst e1;exact hs
theorem QE.ZeX{rs:List ResultVar}{vs:List Value}(ha:Env n σ a)(hn:Nat.blt d n.n=true)(hr:fn.results=rs.toArray)(hv:Xp P ⟨m.n,[]⟩ τ B rs vs)(h:SP P n ρ ((d,single vs)::σ) B L l Q):QE ⟨m.n,[]⟩ τ B (bodyPost P fn (Ziv P ρ L l Q d a)) .ret:=
 QE.Z89 hr rfl hv fun w hw=>⟨single vs,rfl,h _ _ (ha.put (single vs) (by simpa using hn)) hw⟩
theorem QE.Z0E{rs:List ResultVar}{vs:List Value}(ha:Env n σ a)(hn:Nat.blt d n.n=true)(hr:fn.results=rs.toArray)(hv:Xp P ⟨m.n,[]⟩ τ B rs vs)(h:SP P n ρ ((d,single vs)::σ) B L l Q):QE ⟨m.n,[]⟩ τ B (bodyPost P fn (Ziv P ρ L l Q d a)) .normal:=
 fun a2 w h2 hw=>QE.Z89 (n:=⟨m.n,[]⟩) (σ:=τ) (A:=B) hr rfl hv (fun w hw=>⟨single vs,rfl,h _ _ (ha.put (single vs) (by simpa using hn)) hw⟩) a2 w h2 hw
def dfr(f:FuncId)(caps vals:List Value):Deferred:={ target :=.fn (.func f) caps.toArray,args:=vals.toArray }
theorem SP.defer{o:Oper}{tr:TypeId}{x:Operand}{pos:String}{af:Array Edge}{gu:Option (Nat×Bool)}{ar:Array Operand}{ats:Array TypeId}(ho:o=⟨none,.defer ⟨.value x,ar,ats⟩,tr,pos,af,gu⟩)(hg:gd L σ gu=some true)(hx:ev σ x=some (.func (.func f) #[] caps.toArray))(has:evs σ ar.toList=some vals)
    (h:SP P ⟨n.n,dfr f caps vals::n.ds⟩ none σ A L l Q):SP P n none σ A L (o::l) Q:=fun a w ha hw=>by
 subst ho;unfold wpListIn;rw[if_pos (ha.wanted hg)];have hm:ar.map a.eval=vals.toArray:=by rw[←Array.toArray_toList (xs:=ar.map a.eval),Array.toList_map,ha.Z1i has]
 have hr:(execOp a.eval ⟨none,.defer ⟨.value x,ar,ats⟩,tr,pos,af,gu⟩).run P w=.ok (.defer (dfr f caps vals)) w:=by
  simp[execOp,resolve,ha.eval hx,Deferred.ofValue,hm,dfr]
 refine⟨fun _ _=>trivial,?_⟩;rw[Oper.semAt_none,hr,Oper.uponIn_defer];exact h _ _ ⟨ha.1,by show _::a.defers=_;rw[ha.2.1],ha.2.2⟩ hw
def NP(Q:Cont):Cont:=fun e a w=>match e with
 | .panic _=>False
 |e=>Q e a w
theorem NP.imp{Q:Cont}{e:Exit}{a:Act}{w:World}(h:NP Q e a w):Q e a w:=by cases e<;>first|exact h.elim|exact h
theorem XL.ofD{w0:World}{hA hV:Hp}{ps:List HP}{os:List HO}{args:List Value}{K:Value→HO}(hf:P.funcs[f]?=some fn)(hb:fn.body=some c)(hn:fn.ntmps=n.n∧n.ds=[])(ha:Nat.ble args.length n.n=true)
    (h0:St w0 hA hV ps os w0)
    (h:CP P n none (slots 0 args) (St w0 hA hV ps os) c (NP (bodyPostDIn (FF none) 0 P fn fun e w'=>∃v,e=.returned v∧Since w0 hA hV (K v).p w'))):XL P f args.toArray hA hV w0 K:=
 callsIn_wide.1 (callsIn_of_wp_defers (F:=FF none) (n:=0) hf hb trivial (wpIn_mono (h _ _ (Env.enter hn ha) h0) fun _ _ _ q=>NP.imp q))
def Z7p(P:Program)(fn:Func)(tmps:Array Value)(R:Ending→World→Prop)(ds:List Deferred):Ending→World→Prop:=fun e w=>∃v,e=.returned v∧LeavesIn (FF none) 0 P fn tmps R ds .returning w
theorem QE.door{q:Nat}{g:Func}{ds:List Deferred}{R:Ending→World→Prop}(k:Nat)(hf:P.funcs[f]?=some g)(hfn:((P.funcs[f]?).map fun fn=>fn.body.isSome && !(fn.name == "runtime.NumGoroutine"))=some true)(hb:g.body=some c)(hk:g.ntmps=k)(hl:Nat.ble (vals++caps).length k=true)
    (h:∀a,Env ⟨q,dfr f caps vals::ds⟩ σ a→CP P ⟨k,[]⟩ none (slots 0 (vals++caps)) A c (bodyPost P g (Z7p P fn a.tmps R ds))):QE ⟨q,dfr f caps vals::ds⟩ σ A (NP (bodyPostDIn (FF none) 0 P fn R)) .ret:=fun a w ha hw=>by
 show LeavesIn (FF none) 0 P fn a.tmps R a.defers .returning w;rw[ha.2.1];refine leavesIn_cons (f:=f) (args:=(vals++caps).toArray) (by simp) (by intro h;cases h) ?_ (fun _ _=>trivial) ?_
 ·simp[invoke,Z04 hfn (b:=default) (fv:=undef)]
 ·refine(callsDIn_of_wp hf hb trivial (h a ha _ _ (Env.enter (n:=⟨k,[]⟩) ⟨hk,rfl⟩ hl) hw)).mono fun e u' w' ⟨hu,v,e1,hs⟩=>?_;subst e1 hu;exact hs
theorem QE.Z1l{R:Ending→World→Prop}{g:Func}{k:Nat}{rs:List ResultVar}{vs:List Value}{e:Exit}(he:e=.ret∨e=.normal)(ha:Env n σ a)(hg:g.results = #[])(hr:fn.results=rs.toArray)(hv:Xp P n σ B rs vs)(h:∀w,B w→R (.returned (single vs)) w):QE ⟨k,[]⟩ τ B (bodyPost P g (Z7p P fn a.tmps R [])) e:=fun a2 w h2 hw=>by
 have key:bodyPost P g (Z7p P fn a.tmps R []) .ret a2 w:=QE.Z89 (n:=⟨k,[]⟩) (σ:=τ) (A:=B) (rs:=[]) (vs:=[]) hg rfl trivial (fun w hw=>⟨single [],rfl,single vs,Xp.told hr ha hw hv,h w hw⟩) a2 w h2 hw;rcases he with rfl|rfl<;>exact key
theorem QE.ZlW{R:Ending→World→Prop}{rs:List ResultVar}{vs:List Value}(hr:fn.results=rs.toArray)(hds:n.ds=[])(hv:Xp P n σ A rs vs)(h:∀w,A w→R (.returned (single vs)) w):QE n σ A (NP (bodyPostDIn (FF none) 0 P fn R)) .ret:=fun a w ha hw=>by
 show LeavesIn (FF none) 0 P fn a.tmps R a.defers .returning w;rw[ha.2.1,hds];exact⟨single vs,Xp.told hr ha hw hv,h w hw⟩
end
section
variable{P:Program}{n:Fr}{σ:List (Nat×Value)}{A:World→Prop}{dd:Option Nat}{t tr e:TypeId}{x y:Operand}{pos:String}{af:Array Edge}{g:Option (Nat×Bool)}{cs c:List Value}{v:Value}{j k:Nat}{m:Nat}{ik:IntKind}
theorem Val.Z1m(j:Nat)(hu:P.underlying t=some (.array m e)){X5:TypeDesc}(he:P.underlying e=some X5)(hd:isA X5=false)(hs:(P.info? e).map (·.size)=some 1)(hx:ev σ x=some (.agg cs.toArray))(hy:ev σ y=some (.int ik (j:Int)))(hm:Nat.blt j m=true)(hc:cs[j]?=some v) :
    Val P n σ A ⟨dd,.index t x y,tr,pos,af,g⟩ v:=by
 intro a w ha hw;have hm:j<m:=by simpa using hm
 have hp:=Vw (P:=P) (t:=e) (w:=w) (cs:=cs.toArray) (off:=(j:Int).toNat*1) he hd (by simpa using hc);have hsz:(sizeOf e).run P w=.ok 1 w:=by
  cases hq:P.info? e with
  |none=>simp[hq]at hs
  |some i=>simp[hq]at hs;simp[sizeOf,typeInfo,hq,hs]
 have:(Instr.index t (.agg cs.toArray) (.int ik (j:Int))).run P w=.ok v w:=by
  simp only[Instr.index,asIntOf,Sem.run_bind,Sem.run_pure,Result.andThen_ok,run_underlying hu];rw[if_pos ⟨by omega,by omega⟩];simp only[Sem.run_bind,hsz,Result.andThen_ok];exact hp
 simp[execOp,ha.eval hx,ha.eval hy,this]
theorem Val.Z1n(j:Nat)(hu:P.underlying t=some (.array m e)){X5:TypeDesc}(he:P.underlying e=some X5)(hd:isA X5=true)(hs:(P.info? e).map (·.size)=some k)(hx:ev σ x=some (.agg cs.toArray))(hy:ev σ y=some (.int ik (j:Int)))(hm:Nat.blt j m=true)(hc:cs.toArray.extract (j*k) (j*k+k)=c.toArray) :
    Val P n σ A ⟨dd,.index t x y,tr,pos,af,g⟩ (.agg c.toArray):=by
 intro a w ha hw;have hm:j<m:=by simpa using hm
 have hp:=Zga (P:=P) (t:=e) (w:=w) (cs:=cs.toArray) (off:=(j:Int).toNat*k) he hd hs hc;have hsz:(sizeOf e).run P w=.ok k w:=by
  cases hq:P.info? e with
  |none=>simp[hq]at hs
  |some i=>simp[hq]at hs;simp[sizeOf,typeInfo,hq,hs]
 have:(Instr.index t (.agg cs.toArray) (.int ik (j:Int))).run P w=.ok (.agg c.toArray) w:=by
  simp only[Instr.index,asIntOf,Sem.run_bind,Sem.run_pure,Result.andThen_ok,run_underlying hu];rw[if_pos ⟨by omega,by omega⟩];simp only[Sem.run_bind,hsz,Result.andThen_ok];exact hp
 simp[execOp,ha.eval hx,ha.eval hy,this]
end
def Z5H(k:IntKind)(a b:Int):Int:=k.wrap (a*2 ^ (min b.toNat k.bits))
def Z4j(k:IntKind)(a b:Int):Int:=a.fdiv (2 ^ (min b.toNat k.bits))
def ZlX(k:IntKind)(a b:Int):Int:=k.wrap ((BitVec.ofInt k.bits a &&& BitVec.ofInt k.bits b).toNat:Int)
def orI(k:IntKind)(a b:Int):Int:=k.wrap ((BitVec.ofInt k.bits a ||| BitVec.ofInt k.bits b).toNat:Int)
section
variable{P:Program}{n:Fr}{σ:List (Nat×Value)}{A:World→Prop}{dd:Option Nat}{t tr ty:TypeId}{x y:Operand}{pos:String}{af:Array Edge}{g:Option (Nat×Bool)}{k yk:IntKind}{a b:Int}
theorem Val.shl(hb:0≤b)(hx:ev σ x=some (.int k a))(hy:ev σ y=some (.int yk b)):Val P n σ A ⟨dd,.binOp .shl t x y ty,tr,pos,af,g⟩ (.int k (Z5H k a b)):=fun e w ha _=>by
 simp[execOp,ha.eval hx,ha.eval hy,eqGuard,binOp,Op.shift,Z5H,Int.not_lt.2 hb]
theorem Val.shr(hb:0≤b)(hx:ev σ x=some (.int k a))(hy:ev σ y=some (.int yk b)):Val P n σ A ⟨dd,.binOp .shr t x y ty,tr,pos,af,g⟩ (.int k (Z4j k a b)):=fun e w ha _=>by
 simp[execOp,ha.eval hx,ha.eval hy,eqGuard,binOp,Op.shift,Z4j,Int.not_lt.2 hb]
theorem Val.and(hx:ev σ x=some (.int k a))(hy:ev σ y=some (.int k b)):Val P n σ A ⟨dd,.binOp .and t x y ty,tr,pos,af,g⟩ (.int k (ZlX k a b)):=fun e w ha _=>by
 simp[execOp,ha.eval hx,ha.eval hy,eqGuard,binOp,Op.intBits,ZlX]
theorem Val.neg(hx:ev σ x=some (.int k a)):Val P n σ A ⟨dd,.unOp .neg t x,tr,pos,af,g⟩ (.int k (k.wrap (0-a))):=fun e w ha _=>by
 simp[execOp,ha.eval hx,Op.unary,Op.intArith]
theorem Val.or(hx:ev σ x=some (.int k a))(hy:ev σ y=some (.int k b)):Val P n σ A ⟨dd,.binOp .or t x y ty,tr,pos,af,g⟩ (.int k (orI k a b)):=fun e w ha _=>by
 simp[execOp,ha.eval hx,ha.eval hy,eqGuard,binOp,Op.intBits,orI]
end
theorem SP.Zkw{P:Program}{n:Fr}{ρ:Option Nat}{σ:List (Nat×Value)}{w0:World}{hA hV:Hp}{ps:List HP}{os:List HO}{L l:List Oper}{Q:Cont}{d:Nat}{t tr e:TypeId}{x y y2:Operand}{pos:String}{af:Array Edge}{g:Option (Nat×Bool)}{α:Type}{k:Kd α}{xs:List α}{v:Value}{ik ik2:IntKind}{z z2:Int}
    (see:YG w0 hA hV) (i:Nat) (hi:ps[i]?=some (Z9 k v xs)) (hu:P.underlying t=some (.slice e)) (hs:(P.info? e).map (·.size)=some k.sz) (hx:ev σ x=some v) (hy:ev σ y=some (.int ik z)) (hy2:ev σ y2=some (.int ik2 z2)) (h0:(0≤z∧z≤z2)∧z2≤xs.length) (hg:gd L σ g=some true) (hn:Nat.blt d n.n=true)
    (h:∀s,SP P n ρ ((d,s)::σ) (St w0 hA hV (Z9 k s ((xs.take z2.toNat).drop z.toNat)::ps) os) L l Q):SP P n ρ σ (St w0 hA hV ps os) L (⟨some d,.slice t x (some y) (some y2) none,tr,pos,af,g⟩::l) Q:=by
 refine SP.op (fun s:Value=>s) (fun s=>St w0 hA hV (Z9 k s ((xs.take z2.toNat).drop z.toNat)::ps) os) hg rfl hn (fun a w ha hw=>?_) h;obtain⟨A,cap,e1,hle,-⟩:=St.Ur i hi see.sub see.dj hw;subst e1;cases hq:P.info? e with
 |none=>simp[hq]at hs
 |some j=>
  have hj:j.size=k.sz:=by simpa[hq]using hs
  have hb2:=run_sliceBound (P:=P) (w:=w) ik2 z2 cap .sliceAcap (by omega) (by omega);have hb:=run_sliceBound (P:=P) (w:=w) ik z z2.toNat .sliceB h0.1.1 (by omega);have hl:(xs.take z2.toNat).length=z2.toNat:=by simp;omega
  refine⟨.slice (if cap=z.toNat then A else A.map (·.add (z.toNat*k.sz))) (z2.toNat-z.toNat) (cap-z.toNat),w,by simp[execOp,ha.eval hx,ha.eval hy,ha.eval hy2,Instr.sliceAt,Instr.slice,run_underlying hu,Instr.sliceBounds,hb,hb2,sizeOf,typeInfo,hq,hj],hw.know fun hh ap=>?_⟩;have u:=Xb.upto (ap _ (List.mem_of_getElem? hi)) z2.toNat (by omega);have f:=Xb.from u z.toNat (by rw[hl];omega);exact f
end Go.Q
namespace Go.Q
open Go.Sort Go.Proofs
def slV(T:TypeId)(v:Value)(xs:List Int):HO:=⟨fun _ h=>(v=.slice none 0 0∧xs=[])∨∃g o cap cur,v=.slice (some ⟨g,o,none⟩) xs.length cap∧h g=some (.cells cur T (0,0))∧xs.length≤cap∧cap≤maxLen∧o+cap≤cur.size∧∀(i:Nat) x,xs[i]?=some x→cur[o+i]?=some (.int .i64 x),
 fun _ _ _ _ _ sb h=>h.imp id fun⟨g,o,cap,cur,e,hg,z⟩=>⟨g,o,cap,cur,e,sb _ _ hg,z⟩⟩
section
variable{P:Program}{n:Fr}{ρ:Option Nat}{σ:List (Nat×Value)}{A:World→Prop}{w0:World}{hA hV:Hp}{ps:List HP}{os:List HO}{L l:List Oper}{Q:Cont}{d:Nat}{dd:Option Nat}{t e T tr:TypeId}{x y:Operand}{pos:String}{af:Array Edge}{g:Option (Nat×Bool)}{v u p:Value}{xs ys:List Int}{x0 j z:Int}{ik:IntKind}
end
theorem slV.holds{T:TypeId}{g o cap:Nat}{cur:Array Value}{w:World}{l:List Int}(hg:w.heap[g]?=some (.cells cur T (0,0)))(q:∀(i:Nat) x,l[i]?=some x→cur[o+i]?=some (.int .i64 x)):Holds (Value.int .i64) w g o l.toArray:=by
 intro j hj;have hj':j<l.length:=by simpa using hj
 refine⟨?_,?_⟩
 ·simp only[World.cell?];rw[hg];have:=q j l[j] (List.getElem?_eq_getElem hj');simp[this,getElem!_pos,hj']
 ·simp only[World.frozen?];rw[hg];simp
theorem Since.imp{w w':World}{h1 hP:Hp}{F G:Hp→Hp→Prop}(h:Since w h1 hP F w')(f:∀a b,F a b→G a b):Since w h1 hP G w':=by
 obtain⟨m,fr,hN,hO,n1,n2,d,t1,t2,q⟩:=h;exact⟨m,fr,hN,hO,n1,n2,d,t1,t2,f _ _ q⟩
end Go.Q
namespace Go.Q
section
variable{P:Program}{n m:Fr}{ρ:Option Nat}{σ τ:List (Nat×Value)}{A B:World→Prop}{L l:List Oper}{Q:Cont}{d:Nat}{dd:Option Nat}{a:Act}{f:FuncId}{fn:Func}{c:Code}{vals caps:List Value}{ch:List PanicEntry}{t tr u ty:TypeId}{x y:Operand}{pos:String}{af:Array Edge}{gu:Option (Nat×Bool)}{v:Value}
abbrev thr(v:Value):Exit :=.panic [{ v,recovered:=false }]
def Zbq(P:Program)(ρ:Option Nat)(L l:List Oper)(Q:Cont)(d:Nat)(a:Act):Ending→World→Prop:=fun e w=>match e with
 | .returned v=>wpListIn (FF ρ) 0 P L.toArray Q l (a.put (some d) v) w
 | .panicked ch=>Q (.panic ch) a w
 | .outgrown=>False
theorem SP.Z7q{ar:Array Operand}{ats:Array TypeId}(m:Nat)(hf:P.funcs[f]?=some fn)(hfn:((P.funcs[f]?).map fun fn=>fn.body.isSome && !(fn.name == "runtime.NumGoroutine"))=some true)
    (hg:gd L σ gu=some true) (hx:ev σ x=some (.func (.func f) #[] caps.toArray)) (has:evs σ ar.toList=some vals) (hb:fn.body=some c) (hk:fn.ntmps=m) (hl:Nat.ble (vals++caps).length m=true)
    (h:∀a,Env n σ a→CP P ⟨m,[]⟩ none (slots 0 (vals++caps)) A c (bodyPost P fn (Zbq P ρ L l Q d a))):SP P n ρ σ A L (⟨some d,.call ⟨.value x,ar,ats⟩,tr,pos,af,gu⟩::l) Q:=fun a w ha hw=>by
 unfold wpListIn;rw[if_pos (ha.wanted hg)];have hm:ar.map a.eval=vals.toArray:=by rw[←Array.toArray_toList (xs:=ar.map a.eval),Array.toList_map,ha.Z1i has]
 have hr:(execOp a.eval ⟨some d,.call ⟨.value x,ar,ats⟩,tr,pos,af,gu⟩).run P w=.ok (.enter f (vals++caps).toArray) w:=by
  simp[execOp,resolve,ha.eval hx,Deferred.ofValue,invoke,hm,Z04 hfn (b:=default) (fv:=undef)]
 refine⟨fun _ _=>trivial,?_⟩;rw[TP hr (fun d e=>by cases e),Oper.uponIn_enter];refine⟨fun h=>(by cases h),Z5f ?_⟩;have hc:=calls_of_wp hf hb (wpIn_wide.1 (h a ha _ _ (Env.enter (n:=⟨m,[]⟩) ⟨hk,rfl⟩ hl) hw));exact hc.mono fun e w' hs=>by
  cases e with
  |returned v=>exact hs
  |panicked ch=>exact hs
  |outgrown=>exact hs.elim
theorem QE.Ziw{rs:List ResultVar}{vs:List Value}(ha:Env n σ a)(hn:Nat.blt d n.n=true)(hr:fn.results=rs.toArray)(hv:Xp P ⟨m.n,[]⟩ τ B rs vs)(h:SP P n ρ ((d,single vs)::σ) B L l Q):QE ⟨m.n,[]⟩ τ B (bodyPost P fn (Zbq P ρ L l Q d a)) .ret:=
 QE.Z89 hr rfl hv fun w hw=>(h _ _ (ha.put (single vs) (by simpa using hn)) hw)
theorem QE.endP{rs:List ResultVar}{vs:List Value}(ha:Env n σ a)(hn:Nat.blt d n.n=true)(hr:fn.results=rs.toArray)(hv:Xp P ⟨m.n,[]⟩ τ B rs vs)(h:SP P n ρ ((d,single vs)::σ) B L l Q):QE ⟨m.n,[]⟩ τ B (bodyPost P fn (Zbq P ρ L l Q d a)) .normal:=
 fun a2 w h2 hw=>QE.Z89 (n:=⟨m.n,[]⟩) (σ:=τ) (A:=B) hr rfl hv (fun w hw=>(h _ _ (ha.put (single vs) (by simpa using hn)) hw)) a2 w h2 hw
theorem QE.Z9P(ha:Env n σ a)(h:QE n σ B Q (.panic ch)):QE ⟨m.n,[]⟩ τ B (bodyPost P fn (Zbq P ρ L l Q d a)) (.panic ch):=fun a2 w h2 hw=>⟨h2.2.1,h a w ha hw⟩
theorem SP.panic(hg:gd L σ gu=some true)(hx:ev σ x=some (.iface u v))(h:QE n σ A Q (thr (.iface u v))):SP P n none σ A L (⟨none,.panic x,tr,pos,af,gu⟩::l) Q:=fun a w ha hw=>by
 unfold wpListIn;rw[if_pos (ha.wanted hg)];have hr:(execOp a.eval ⟨none,.panic x,tr,pos,af,gu⟩).run P w=.halt (.panic (.iface u v)) w:=by
  simp[execOp,ha.eval hx,Instr.panic,goPanic]
 refine⟨fun _ _=>trivial,?_⟩;rw[Oper.semAt_none,hr,Oper.uponIn_panic];exact h a w ha hw
theorem CP.np(h:CP P n ρ σ A c (NP Q)):CP P n ρ σ A c Q:=fun a w ha hw=>wpIn_mono (h a w ha hw) fun _ _ _ q=>NP.imp q
theorem QE.npN(h:QE n σ A Q .normal):QE n σ A (NP Q) .normal:=h
theorem Val.iface{ds:TypeDesc}(hu:P.underlying t=some ds)(hd:(match ds with | .interface _=>true | _=>false)=false)(hx:ev σ x=some v):Val P n σ A ⟨dd,.makeInterface t x,tr,pos,af,gu⟩ (.iface t v):=fun e w ha _=>by
 cases ds<;>simp at hd<;>simp[execOp,ha.eval hx,Instr.makeInterface,run_underlying hu]
theorem Val.Z48{ds:TypeDesc}(hu:P.underlying t=some ds)(hd:(match ds with | .interface _=>true | _=>false)=false)(hx:ev σ x=some (.iface t v)):Val P n σ A ⟨dd,.typeAssert x u t true,tr,pos,af,gu⟩ (.tuple #[v,.bool true]):=fun e w ha _=>by
 cases ds<;>simp at hd<;>simp[execOp,ha.eval hx,Instr.typeAssert,run_underlying hu]
theorem Val.Z9Q{ms:Array (String×TypeId)}(hu:P.underlying u=some (.interface ms))(hx:ev σ x=some (.iface t v))(hy:ev σ y=some .nilIface):Val P n σ A ⟨dd,.binOp .neq u x y ty,tr,pos,af,gu⟩ (.bool true):=fun e w ha _=>by
 have h:∀d:Nat,(Op.equalIn (d+1) u (.iface t v) .nilIface).run P w=.ok false w:=fun d=>by simp[Op.equalIn,run_underlying hu]
 have h2:(Op.equal u (.iface t v) .nilIface).run P w=.ok false w:=h 9999;simp[execOp,ha.eval hx,ha.eval hy,eqGuard,binOp,h2]
theorem Val.ZtP{ms:Array (String×TypeId)}(hu:P.underlying u=some (.interface ms))(hx:ev σ x=some .nilIface):Val P n σ A ⟨dd,.binOp .neq u x (.const .nilIface) ty,tr,pos,af,gu⟩ (.bool false):=fun e w ha _=>by
 have hv:=ha.eval hx;have hc:e.eval (.const .nilIface)=.nilIface:=rfl;have h:∀d:Nat,(Op.equalIn (d+1) u .nilIface .nilIface).run P w=.ok true w:=fun d=>by simp[Op.equalIn,run_underlying hu]
 have h2:(Op.equal u .nilIface .nilIface).run P w=.ok true w:=h 9999;simp[execOp,hv,hc,eqGuard,binOp,h2]
theorem XL.ofP{w0:World}{hA hV:Hp}{ps:List HP}{os:List HO}{args:List Value}{K:Value→HO}(hf:P.funcs[f]?=some fn)(hb:fn.body=some c)(hn:fn.ntmps=n.n∧n.ds=[])(ha:Nat.ble args.length n.n=true)
    (h0:St w0 hA hV ps os w0)
    (h:CP P n none (slots 0 args) (St w0 hA hV ps os) c (bodyPostDIn (FF none) 0 P fn fun e w'=>∃v,e=.returned v∧Since w0 hA hV (K v).p w')):XL P f args.toArray hA hV w0 K:=
 callsIn_wide.1 (callsIn_of_wp_defers (F:=FF none) (n:=0) hf hb trivial (h _ _ (Env.enter hn ha) h0))
theorem Zgj{g:Func}{R:Ending→World→Prop}{tmps:Array Value}{w:World}{um um2:FrameMode}{k r1 r2 id:Nat}{rest:Code}{t1 t2:TypeId}{p1 p2:String}{a1 a2:Array Edge}(hum:um≠.run)
    (hrec:∀(c₀:Frame) cs,c₀.mode=um→(match recoverD (c₀::cs)with|some (v',cs')=>v'=v∧cs'={ c₀ with mode:=um2 }::cs|none=>v=.nilIface∧um2=um)) (hset:settle um2=.returning)
    (hf:P.funcs[f]?=some g) (hfn:((P.funcs[f]?).map fun fn=>fn.body.isSome && !(fn.name == "runtime.NumGoroutine"))=some true)
    (hb:g.body=some (.seq (.region id #[⟨some r1,.call ⟨.builtin .recover,#[],#[]⟩,t1,p1,a1,none⟩,⟨some r2,.assign (.tmp r1),t2,p2,a2,none⟩] false) rest)) (hk:g.ntmps=k) (hl:Nat.ble caps.length k=true) (h1:Nat.blt r1 k=true) (h2:Nat.blt r2 k=true) (hA:A w)
    (h:CP P ⟨k,[]⟩ none ((r2,v)::(r1,v)::slots 0 caps) A rest (bodyPost P g (Z7p P fn tmps R []))):LeavesIn (FF none) 0 P fn tmps R [dfr f caps []] um w:=by
 refine leavesIn_cons (f:=f) (args:=caps.toArray) hum (by intro h;cases h) ?_ (fun _ _=>trivial) ?_
 ·simp[invoke,Z04 hfn (b:=default) (fv:=undef)]
 ·refine callsDIn_of_wpSIn hf hb trivial fun c₀ cs hm=>?_;have he:Env ⟨k,[]⟩ (slots 0 caps) { tmps:=caps.toArray++Array.replicate (g.ntmps-caps.toArray.size) undef,defers:=[] }:=by
   have:=Env.enter (n:=⟨k,[]⟩) (fn:=g) (args:=caps) ⟨hk,rfl⟩ hl;exact this
  generalize hac:({ tmps:=caps.toArray++Array.replicate (g.ntmps-caps.toArray.size) undef,defers:=[] }:Act)=ac at he
  refine wpSIn_seq (wpSIn_region ?_);have hr:=hrec c₀ cs hm;have e1:((ac.put (some r1) v).put (some r2) v).tmps=((ac.put (some r1) v).put (some r2) v).tmps:=rfl;have he2:=(he.put v (by simpa using h1)).put (d:=r2) v (by simpa using h2);have fin:∀cs2 R',cs2=({ c₀ with mode:=um2 }:Frame)::cs→(∀v2 w',LeavesIn (FF none) 0 P fn tmps R [] .returning w'→R' (.returned v2) um2 w')→rest.wpSIn (FF none) 0 P (bodyPostS P g c₀ cs R') ((ac.put (some r1) v).put (some r2) v) cs2 w:=by
   rintro _ R' rfl hR;refine wpSIn_of_wpIn rfl (wpIn_mono (h _ _ he2 hA) fun e a' w' q=>?_);cases e with
   |normal=>
    obtain⟨q1,v',q2,v2,q3,q4⟩:=q;cases q3;exact⟨q1,um2,rfl,v',q2,hR _ _ q4⟩
   |ret=>
    obtain⟨q1,v',q2,v2,q3,q4⟩:=q;cases q3;exact⟨q1,um2,rfl,v',q2,hR _ _ q4⟩
   |panic ch=>obtain⟨_,_,q3,_⟩:=q;cases q3
   |exit _=>exact q.elim
   |goto _=>exact q.elim
   |outgrown=>obtain⟨_,q3,_⟩:=q;cases q3
  have ev1:(execOp ac.eval ⟨some r1,.call ⟨.builtin .recover,#[],#[]⟩,t1,p1,a1,none⟩).run P w=.ok .recover w:=by
   simp[execOp,resolve,invoke,builtin]
  have hg1:(ac.put (some r1) v).eval (.tmp r1)=v:=by
   have:=(he.put (d:=r1) v (by simpa using h1)).eval (x :=.tmp r1) (v:=v) (by simp[ev,find]);exact this
  show wpOpsSIn _ _ _ _ _ [0,1] _ _ _;split at hr
  ·rename_i v' cs' hrv
   obtain⟨rfl,rfl⟩:=hr;have ev2:(execOp (ac.put (some r1) v').eval ⟨some r2,.assign (.tmp r1),t2,p2,a2,none⟩).run P w=.ok (.value v') w:=by
    simp[execOp,hg1]
   simp only[wpOpsSIn];simp[Region.wanted,ev1,hrv,ev2,Exit.thenS];exact⟨fun _ _=>trivial,fun _ _=>trivial,fin _ _ rfl fun v2 w' q=>by dsimp only;rw[hset];exact q⟩
  ·rename_i hrv
   obtain⟨rfl,rfl⟩:=hr;have ev2:(execOp (ac.put (some r1) .nilIface).eval ⟨some r2,.assign (.tmp r1),t2,p2,a2,none⟩).run P w=.ok (.value .nilIface) w:=by
    simp[execOp,hg1]
   simp only[wpOpsSIn];simp[Region.wanted,ev1,hrv,ev2,Exit.thenS];exact⟨fun _ _=>trivial,fun _ _=>trivial,fin _ _ (by rw[←hm]) fun v2 w' q=>by dsimp only;rw[hset];exact q⟩
theorem QE.Zp7{g:Func}{R:Ending→World→Prop}{q k:Nat}(r1 r2:Nat){id:Nat}{rest:Code}{t1 t2:TypeId}{p1 p2:String}{a1 a2:Array Edge}(hf:P.funcs[f]?=some g)(hfn:((P.funcs[f]?).map fun fn=>fn.body.isSome && !(fn.name == "runtime.NumGoroutine"))=some true)
    (hb:g.body=some (.seq (.region id #[⟨some r1,.call ⟨.builtin .recover,#[],#[]⟩,t1,p1,a1,none⟩,⟨some r2,.assign (.tmp r1),t2,p2,a2,none⟩] false) rest)) (hk:g.ntmps=k) (hl:Nat.ble caps.length k=true) (h1:Nat.blt r1 k=true) (h2:Nat.blt r2 k=true)
    (h:∀a,Env ⟨q,[dfr f caps []]⟩ σ a→CP P ⟨k,[]⟩ none ((r2,.nilIface)::(r1,.nilIface)::slots 0 caps) A rest (bodyPost P g (Z7p P fn a.tmps R []))):QE ⟨q,[dfr f caps []]⟩ σ A (bodyPostDIn (FF none) 0 P fn R) .ret:=fun a w ha hw=>by
 show LeavesIn (FF none) 0 P fn a.tmps R a.defers .returning w;rw[ha.2.1];exact Zgj (v :=.nilIface) (um2 :=.returning) (by intro h;cases h) (fun c₀ cs hm=>by simp[recoverD,hm]) rfl hf hfn hb hk hl h1 h2 hw (h a ha)
theorem QE.Z7r{g:Func}{R:Ending→World→Prop}{q k:Nat}(r1 r2:Nat){id:Nat}{rest:Code}{t1 t2:TypeId}{p1 p2:String}{a1 a2:Array Edge}(hf:P.funcs[f]?=some g)(hfn:((P.funcs[f]?).map fun fn=>fn.body.isSome && !(fn.name == "runtime.NumGoroutine"))=some true)
    (hb:g.body=some (.seq (.region id #[⟨some r1,.call ⟨.builtin .recover,#[],#[]⟩,t1,p1,a1,none⟩,⟨some r2,.assign (.tmp r1),t2,p2,a2,none⟩] false) rest)) (hk:g.ntmps=k) (hl:Nat.ble caps.length k=true) (h1:Nat.blt r1 k=true) (h2:Nat.blt r2 k=true)
    (h:∀a,Env ⟨q,[dfr f caps []]⟩ σ a→CP P ⟨k,[]⟩ none ((r2,v)::(r1,v)::slots 0 caps) A rest (bodyPost P g (Z7p P fn a.tmps R []))):QE ⟨q,[dfr f caps []]⟩ σ A (bodyPostDIn (FF none) 0 P fn R) (thr v):=fun a w ha hw=>by
 show LeavesIn (FF none) 0 P fn a.tmps R a.defers (.panicking [{ v,recovered:=false }]) w;rw[ha.2.1];exact Zgj (v:=v) (um2 :=.panicking [{ v,recovered:=true }]) (by intro h;cases h) (fun c₀ cs hm=>by simp[recoverD,hm]) rfl hf hfn hb hk hl h1 h2 hw (h a ha)
end
end Go.Q
namespace Go.Q
abbrev i6(x:Int):Value :=.int .i64 x
abbrev i8(x:Int):Value :=.int .u8 x
abbrev pt(b:Nat):Value :=.pointer (some ⟨b,0,none⟩)
abbrev nl:Value :=.slice none 0 0
abbrev kb:Kd Int:=Uz .u8
abbrev ki:Kd Int:=Uz .i64
abbrev wr(x:Int):Int:=IntKind.i64.wrap x
abbrev wb(x:Int):Int:=IntKind.u8.wrap x
class Inf(P:Program)(t:TypeId)(cs:outParam (List Value))(s b:outParam Nat):Prop where
 h:(P.info? t).map (fun i=>((i.zero.map fun z=>z.cells.toList),i.size,i.bytes))=some (some cs,s,b)
class ZT(P:Program)(f:FuncId):Prop where
 h:((P.funcs[f]?).map fun fn=>fn.body.isSome && !(fn.name == "runtime.NumGoroutine"))=some true
class Shp(P:Program)(t:TypeId)(z:outParam (List Value))(pl:outParam (List (Nat×Nat))):Prop where
 h:shapeOf P t=some (z,pl)
theorem ZT.f{P:Program}{f:FuncId}{fn:Func}(h:P.funcs[f]?=some fn)(hb:(fn.body.isSome && !(fn.name == "runtime.NumGoroutine"))=true:=by rfl):ZT P f:=⟨by rw[h];exact congrArg some hb⟩
theorem VK.f{P:Program}{t:TypeId}{f q ft s:Nat}{fs:Array Field}(hu:P.underlying t=some (.struct fs))(hs:UE P ft (s+1))(hf:∃fd,fs[f]?=some fd∧fd.offset=q∧fd.type=ft:=by exact⟨_,rfl,rfl,rfl⟩):VK P t f q:=by
 obtain⟨fd,h1,h2,rfl⟩:=hf;exact⟨⟨_,fd,s,hu,h1,h2,hs.h⟩⟩
inductive Has{α:Type _}(x:α):List α→Prop where
 |here {r:List α}:Has x (x::r)
 |there {y:α} {r:List α}:Has x r→Has x (y::r)
theorem ix{α:Type _}{xs:List α}{x:α}(h:Has x xs:=by repeat (first|exact Has.here|apply Has.there)):∃i:Nat,xs[i]?=some x:=by
 induction h with
 |here=>exact⟨0,rfl⟩
 |there _ ih=>obtain⟨i,e⟩:=ih;exact⟨i+1,e⟩
section
variable{P:Program}{n:Fr}{σ:List (Nat×Value)}{A:World→Prop}{w0:World}{hA hV:Hp}{ps:List HP}{os:List HO}{dd:Option Nat}{t ty tr:TypeId}{x y:Operand}{pos:String}{af:Array Edge}{g:Option (Nat×Bool)}{v:Value}
theorem Val.la{b off k:Nat}{cs:List Value}{T:TypeId}{X5:TypeDesc}(hx:ev σ x=some (.pointer (some ⟨b,off,none⟩)))(hi:∃i:Nat,os[i]?=some (Zl b cs T):=by exact ix)[hu:WR P t X5][hs:UE P t k](hd:ag X5=true:=by rfl)(hk:Nat.beq (seg cs off k).length k=true:=by rfl) :
    Val P n σ (St w0 hA hV ps os) ⟨dd,.load t x,tr,pos,af,g⟩ (.agg (seg cs off k).toArray):=let ⟨i,h⟩:=hi;Val.ZeI i h hu.h (by revert hd;cases X5<;>simp[ag]) hs.h hx rfl hk
theorem Val.lw{α:Type}{k:Kd α}{xs:List α}{T e:TypeId}(hx:ev σ x=some v)[hu:WR P t (.slice e)](se:YG w0 hA hV:=by exact see)(hi:∃i:Nat,os[i]?=some (Zg k T v xs):=by exact ix) :
    Val P n σ (St w0 hA hV ps os) ⟨dd,.call ⟨.builtin .len,#[x],#[t]⟩,tr,pos,af,g⟩ (.int .i64 (xs.length:Int)):=let ⟨i,h⟩:=hi;Val.ZtF se i h hu.h hx
theorem Val.cv{yk k:IntKind}{a:Int}{X5:TypeDesc}(hx:ev σ x=some (.int k a))[hs:WR P t X5][hu:WR P ty (.int yk)]:Val P n σ A ⟨dd,.convert t ty x,tr,pos,af,g⟩ (.int yk (yk.wrap a)):=Val.conv (by rw[hs.h];rfl) hu.h hx
theorem Val.l2{b off:Nat}{cs:List Value}{T:TypeId}{X5:TypeDesc}(hx:ev σ x=some (.pointer (some ⟨b,off,none⟩)))(hi:∃i:Nat,os[i]?=some (Zl b cs T):=by exact ix)
    [hu:WR P t X5] (hd:ag X5=false:=by rfl) (hc:nv cs off=some v:=by rfl):Val P n σ (St w0 hA hV ps os) ⟨dd,.load t x,tr,pos,af,g⟩ v:=let ⟨i,h⟩:=hi;Val.ZjG i h hu.h (by revert hd;cases X5<;>simp[ag]) hx hc
end
class Rd{α:Type}(k:Kd α)(C:outParam (α→List Value)):Prop where
 h:∀h cs x,k.rd h cs x→cs=C x
instance {ik:IntKind}:Rd (Uz ik) (fun x=>[.int ik x]):=⟨fun _ _ _ h=>h⟩
instance:Rd Zbp (fun x=>[.bool x]):=⟨fun _ _ _ h=>h⟩
instance:Rd ZtE (fun x=>[.string x]):=⟨fun _ _ _ h=>h⟩
theorem Val.lp{P:Program}{n:Fr}{σ:List (Nat×Value)}{w0:World}{hA hV:Hp}{ps:List HP}{os:List HO}{dd:Option Nat}{t tr:TypeId}{x:Operand}{pos:String}{af:Array Edge}{g:Option (Nat×Bool)}{v u:Value}{α:Type}{k:Kd α}{x0:α}{X5:TypeDesc}(hx:ev σ x=some v)(hi:∃i:Nat,ps[i]?=some (U8 k v x0):=by exact ix)[hu:WR P t X5](hd:ag X5=false:=by rfl)(hc:∃C:α→List Value,Rd k C∧C x0=[u]:=by exact⟨_,inferInstance,rfl⟩)(se:YG w0 hA hV:=by exact see):Val P n σ (St w0 hA hV ps os) ⟨dd,.load t x,tr,pos,af,g⟩ u:=
 let ⟨i,h⟩:=hi;let ⟨_,hk,hc⟩:=hc;Val.Z1L se i h (fun _ _ e=>(hk.h _ _ _ e).trans hc) hu.h (by revert hd;cases X5<;>simp[ag]) hx
theorem Val.gg{P:Program}{n:Fr}{σ:List (Nat×Value)}{A:World→Prop}{o:Oper}{v:Value}(hv:Val P n σ A o v:=by first
      |exact Val.assign rfl|exact Val.move rfl|exact Val.ZjE rfl rfl|exact Val.ZjF rfl rfl
      |exact Val.f0 rfl|exact Val.fa rfl|exact Val.l1 rfl|exact Val.ln rfl
      |exact Val.eql rfl rfl|exact Val.lss rfl rfl|exact Val.add rfl rfl|exact Val.neq rfl rfl|exact Val.sub rfl rfl|exact Val.gtr rfl rfl|exact Val.geq rfl rfl|exact Val.leq rfl rfl|exact Val.mul rfl rfl
      |exact Val.extract rfl rfl|exact Val.Zlw rfl|exact Val.nilCheck rfl|exact Val.la rfl|exact Val.lw rfl|exact Val.cv rfl|exact Val.l2 rfl|exact Val.lp rfl|exact Val.makeFunc rfl rfl|exact Val.quo rfl rfl (by decide)|exact Val.rem rfl rfl (by decide)):Val P n σ A o v:=hv
section
variable{P:Program}{n:Fr}{σ:List (Nat×Value)}{A:World→Prop}{w0:World}{hA hV:Hp}{ps:List HP}{os:List HO}{dd:Option Nat}{t ty tr:TypeId}{x y:Operand}{pos:String}{af:Array Edge}{g:Option (Nat×Bool)}{v p u:Value}
theorem Val.ie{e:TypeId}{ik:IntKind}{j:Int}{s:Nat}(hx:ev σ x=some v)(hy:ev σ y=some (.int ik j))[hu:WR P t (.slice e)][hs:UE P e s](hp:ZeK v s j p:=by assumption):Val P n σ A ⟨dd,.indexAddr t x y,tr,pos,af,g⟩ p:=Val.ZlA hp hu.h hs.h hx hy
theorem Val.a1(hx:ev σ x=some p){X5:TypeDesc}[hu:WR P t X5](hi:∃i:Nat,ps[i]?=some (atP p [u]):=by exact ix)(hd:ag X5=false:=by rfl)(se:YG w0 hA hV:=by exact see):Val P n σ (St w0 hA hV ps os) ⟨dd,.load t x,tr,pos,af,g⟩ u:=let ⟨i,h⟩:=hi;Val.Zkq se i h hu.h (by revert hd;cases X5<;>simp[ag]) hx
theorem Val.aa(hx:ev σ x=some p){X5:TypeDesc}{cs:List Value}{k:Nat}[hu:WR P t X5][hs:UE P t k](hi:∃i:Nat,ps[i]?=some (atP p cs):=by exact ix)(hk:k=cs.length:=by rfl)(hd:ag X5=true:=by rfl)(se:YG w0 hA hV:=by exact see):Val P n σ (St w0 hA hV ps os) ⟨dd,.load t x,tr,pos,af,g⟩ (.agg cs.toArray):=let ⟨i,h⟩:=hi;Val.Zkp se i h hu.h (by revert hd;cases X5<;>simp[ag]) (hk▸hs.h) hx
theorem Val.fe{fi q:Nat}(hx:ev σ x=some v)[hu:VK P t fi q](hp:Zil v q p:=by assumption):Val P n σ A ⟨dd,.fieldAddr t x fi,tr,pos,af,g⟩ p:=by
 obtain⟨fs,fd,s,h1,h2,h3,h4⟩:=hu.h;exact Val.Jv hp h1 h2 h3 h4 hx
end
theorem Val.gh{P:Program}{n:Fr}{σ:List (Nat×Value)}{A:World→Prop}{o:Oper}{v:Value}(hv:Val P n σ A o v:=by first|exact Val.a1 rfl|exact Val.aa rfl|exact Val.gg):Val P n σ A o v:=hv
section
variable{P:Program}{n:Fr}{ρ:Option Nat}{σ:List (Nat×Value)}{A:World→Prop}{L l:List Oper}{Q:Cont}{o:Oper}{d:Nat}{v:Value}
theorem SP.o1(h:SP P n ρ ((d,v)::σ) A L l Q)(hd:o.dst=some d:=by rfl)(hg:gd L σ o.guard=some true:=by rfl)(hn:Nat.blt d n.n=true:=by rfl)(hv:Val P n σ A o v:=by exact Val.gg):SP P n ρ σ A L (o::l) Q:=SP.val hv hg hd hn h
attribute [local irreducible] CP SP QE DA DT Val St
theorem gg{G R:Prop}(q:R)(h:R→G:=by
 intro q
 repeat (first
  |refine SP.o1 ?_|refine SP.nil ?_|refine QE.then ?_|refine CP.ZlS ?_|refine CP.region ?_
  |refine QE.tX ?_|refine QE.tR ?_|refine QE.tG ?_|refine QE.tP ?_|refine QE.Zg6 ?_|refine SP.not rfl rfl rfl ?_
  |refine CP.ret ?_|refine CP.skip ?_|refine CP.block ?_|refine CP.exit ?_|refine QE.Zg7 rfl ?_|refine QE.Zg4 ?_|refine QE.Zg5 ?_|refine QE.Zg3 ?_|refine CP.seq ?_|refine QE.atA ?_)
 exact q):G:=h q
end
section
variable{P:Program}{n:Fr}{ρ:Option Nat}{σ:List (Nat×Value)}{A:World→Prop}{L l:List Oper}{Q:Cont}{d:Nat}{dd:Option Nat}{v:Value}{w0:World}{hA hV:Hp}{ps ps':List HP}{os os':List HO}{t ty tr e:TypeId}{x y:Operand}{b:Operand}{cx cy:Code}{pos:String}{af:Array Edge}{g:Option (Nat×Bool)}{R R':Prop}{α β γ:Type}
theorem jo{nx:Act→World→Prop}(M:Act→World→Prop)(later:∀a w,M a w→nx a w)(now:CP P n ρ σ A cx (Exit.then M Q)):CP P n ρ σ A cx (Exit.then nx Q):=fun a w ha hw=>
 wpIn_mono (now a w ha hw) (fun e a w q=>by cases e<;>first|exact q|exact later a w q)
theorem ci{c:Prop}[Decidable c]{X Y:Option γ}{r:γ}(ho:(if c then X else Y)=some r)(t:X=some r→R)(f:Y=some r→R')(hb:ev σ b=some (.bool (decide c)):=by rfl)(ht:R→CP P n ρ σ A cx Q:=by exact fun q=>gg q)(hf:R'→CP P n ρ σ A cy Q:=by exact fun q=>gg q):CP P n ρ σ A (.cond b cx cy) Q:=CP.ci ho (fun h=>ht (t h)) (fun h=>hf (f h)) hb
theorem cb{c:Bool}{X Y:Option γ}{r:γ}(ho:(if c=true then X else Y)=some r)(t:X=some r→R)(f:Y=some r→R')(hb:ev σ b=some (.bool c):=by rfl)(ht:R→CP P n ρ σ A cx Q:=by exact fun q=>gg q)(hf:R'→CP P n ρ σ A cy Q:=by exact fun q=>gg q):CP P n ρ σ A (.cond b cx cy) Q:=CP.cb ho (fun h=>ht (t h)) (fun h=>hf (f h)) hb
theorem Xp.ca{t b k:Nat}{ty T:TypeId}{cs:List Value}{rs:List ResultVar}{vs:List Value}{X5:TypeDesc}(h:find t σ=some (.pointer (some ⟨b,0,none⟩)))(hi:∃i:Nat,os[i]?=some (Zl b cs T))[hu:WR P ty X5][hs:UE P ty k](hd:ag X5=true)(hk:k=cs.length)(hr:Xp P n σ (St w0 hA hV ps os) rs vs):Xp P n σ (St w0 hA hV ps os) (.cell t ty::rs) (.agg cs.toArray::vs):=let ⟨i,hi⟩:=hi;⟨Xp.Z3T i h hi hu.h (by revert hd;cases X5<;>simp[ag]) (hk▸hs.h),hr⟩
theorem Xp.c1{t b:Nat}{ty T:TypeId}{v:Value}{rs:List ResultVar}{vs:List Value}{X5:TypeDesc}(h:find t σ=some (.pointer (some ⟨b,0,none⟩)))(hi:∃i:Nat,os[i]?=some (Zl b [v] T))[hu:WR P ty X5](hd:ag X5=false)(hr:Xp P n σ (St w0 hA hV ps os) rs vs):Xp P n σ (St w0 hA hV ps os) (.cell t ty::rs) (v::vs):=let ⟨i,hi⟩:=hi;⟨Xp.cell1 i h hi hu.h (by revert hd;cases X5<;>simp[ag]),hr⟩
theorem rt{fn:Func}{rs:List ResultVar}{vs:List Value}{K:Value→HO}[hr:Y0 fn rs](h:∀w,A w→St w0 hA hV ps os w:=by exact fun _ h=>h)(hds:n.ds=[]:=by rfl)(hv:Xp P n σ A rs vs:=by repeat (first|exact Xp.nil|apply Xp.cons rfl|apply Xp.ca rfl ix|apply Xp.c1 rfl ix|rfl))
    (hk:∀a b,All ps a→Sep a os b→(K (single vs)).p a b:=by first|exact fun _ _ _ _=>rfl|exact fun _ _ _ s=>⟨_,rfl,s⟩|exact fun _ _ _ s=>⟨_,_,rfl,s⟩|exact fun _ _ _ s=>⟨rfl,s⟩|exact fun _ _ _ s=>⟨_,_,_,rfl,s⟩) :
    QE n σ A (bodyPost P fn fun x w'=>∃v,x=.returned v∧Since w0 hA hV (K v).p w') .ret:=QE.rt h hds hv hk
theorem sQ{w:World}(is:List Nat)(h:St w0 hA hV ps os w)(hn:nodup is=true:=by rfl)(hs:Go.Q.sel is os=some os':=by rfl):St w0 hA hV ps os' w:=St.ZeL is hn hs h
theorem nO{w:World}(k:Kd α)(T:TypeId)(h:St w0 hA hV ps os w):St w0 hA hV ps (Zg k T (.slice none 0 0) ([]:List α)::os) w:=St.Tc (Zg.nil k T) h
theorem sO(is:List Nat)(hn:nodup is=true:=by rfl)(hs:Go.Q.sel is os=some os':=by rfl):∀w,St w0 hA hV ps os w→St w0 hA hV ps os' w:=fun _=>St.ZeL is hn hs
theorem Zm0{v:Value}(h:v.oneCell'=true):v.cells.toList=[v]:=by rw[Z4S h]
theorem st(i:Nat)(q:R){b off k:Nat}{v:Value}{cs vs:List Value}{T:TypeId}(hi:os[i]?=some (Zl b cs T):=by rfl)[hs:UE P t k](hg:gd L σ g=some true:=by rfl)(hx:ev σ x=some (.pointer (some ⟨b,off,none⟩)):=by rfl)(hy:ev σ y=some v:=by rfl)(hv:v.cells.toList=vs:=by first|exact Zm0 (by assumption)|rfl)(hk:vs.length=k:=by rfl)(h1:one vs=true:=by repeat (first|exact rfl|refine VD (by first|rfl|assumption) ?_))(hl:Nat.ble (off+vs.length) cs.length=true:=by rfl)
    (h:R→SP P n ρ σ (St w0 hA hV ps (os.set i (Zl b (put cs off vs) T))) L l Q:=by exact fun q=>gg q):SP P n ρ σ (St w0 hA hV ps os) L (⟨none,.store t x y,tr,pos,af,g⟩::l) Q:=
 SP.store i hi (by rw[hs.h,hk]) hg hx hy (by rw[←hv,Array.toArray_toList]) h1 hl (h q)
theorem al{R:Nat→Prop}(q:∀b,R b){cs:List Value}{s b:Nat}[hi:Inf P t cs s b](hg:gd L σ g=some true:=by rfl)(hn:Nat.blt d n.n=true:=by rfl)
    (h:∀b,R b→SP P n ρ ((d,.pointer (some ⟨b,0,none⟩))::σ) (St w0 hA hV ps (Zl b cs t::os)) L l Q:=by exact fun b q=>gg q):SP P n ρ σ (St w0 hA hV ps os) L (⟨some d,.alloc t,tr,pos,af,g⟩::l) Q:=SP.alloc hi.h hg hn fun b=>h b (q b)
theorem cs{o:Oper}(v:Value)(q:R)(hv:∃v',Val P n σ A o v'∧v'=v:=by refine⟨_,Val.gg,?_⟩;rfl)(hg:gd L σ o.guard=some true:=by rfl)(hd:o.dst=some d:=by rfl)(hn:Nat.blt d n.n=true:=by rfl)(h:R→SP P n ρ ((d,v)::σ) A L l Q:=by exact fun q=>gg q):SP P n ρ σ A L (o::l) Q:=by
 obtain⟨v',h1,rfl⟩:=hv;exact SP.val h1 hg hd hn (h q)
theorem sh{α:Type}{k:Kd α}{T:TypeId}{xs:List α}(i:Nat)(q:v.oneCell'=true→R)(se:YG w0 hA hV:=by exact see)(hi:os[i]?=some (Zg k T v xs):=by rfl)(h:R→SP P n ρ σ (St w0 hA hV ps os) L l Q:=by exact fun q=>gg q):SP P n ρ σ (St w0 hA hV ps os) L l Q:=SP.have (fun w2 hw=>Zg.shape (St.own i hi se.sub se.dj hw)) fun e=>h (q e)
theorem sp{α:Type}{k:Kd α}{xs:List α}(i:Nat)(q:v.oneCell'=true→R)(se:YG w0 hA hV:=by exact see)(hi:ps[i]?=some (Z9 k v xs):=by rfl)(h:R→SP P n ρ σ (St w0 hA hV ps os) L l Q:=by exact fun q=>gg q):SP P n ρ σ (St w0 hA hV ps os) L l Q:=SP.have (fun w2 hw=>Xb.shape (St.Ur i hi se.sub se.dj hw)) fun e=>h (q e)
theorem ap{k:Kd α}{xs ys:List α}{v u:Value}{c:Prop}[Decidable c]{X:Option γ}{r:γ}(i j:Nat)(ho:(if c then X else none)=some r){R:Value→Prop}(q:∀v',X=some r→R v')(se:YG w0 hA hV:=by exact see)(hi:os[i]?=some (Zg k e v xs):=by rfl)(hj:ps[j]?=some (Z9 k u ys):=by rfl)[hu:WR P t (.slice e)]{cs:List Value}{s bytes:Nat}[hin:Inf P e cs s bytes](hss:s=k.sz:=by rfl)(hz:Nat.beq cs.length k.sz=true:=by rfl)(hk:Nat.blt 0 k.sz=true:=by rfl)
    (hb:c=((xs.length+ys.length)*bytes≤140737488355328):=by rfl) (hb0:Nat.blt 0 bytes=true:=by rfl) (hg:gd L σ g=some true:=by rfl) (hn:Nat.blt d n.n=true:=by rfl) (hx:ev σ x=some v:=by rfl) (hy:ev σ y=some u:=by rfl)
    (h:∀v',R v'→SP P n ρ ((d,v')::σ) (St w0 hA hV ps (os.set i (Zg k e v' (xs++ys)))) L l Q:=by exact fun v q=>gg q):SP P n ρ σ (St w0 hA hV ps os) L (⟨some d,.call ⟨.builtin .append,#[x,y],#[t,t]⟩,tr,pos,af,g⟩::l) Q:=by
 subst hss;obtain⟨h1,ho⟩:=Xn ho;exact SP.append se i hi j hj hu.h hin.h hz hk (hb▸h1) hb0 hg hn hx hy fun v'=>h v' (q v' ho)
theorem rn{S:Type}{F:S→Option (S⊕γ)}{s:S}{r:γ}(h:Zw F s=some r):∃m o,F s=some o∧next F m o=some r:=by
 obtain⟨n,h⟩:=Z5C.1 h;obtain⟨m,o,-,h1,h2⟩:=Jc h;exact⟨m,o,h1,h2⟩
def Ok(P:Program)(f:FuncId)(args:List Value)(ps:List HP)(K:Value→HO):Prop:=∀(w:World) (hV:Hp),Sub hV (hp w)→All ps hV→XL P f args.toArray em hV w K
structure Base(ps:List HP):Prop
theorem pe(ps:List HP):Base ps:=⟨⟩
theorem oq{f:FuncId}{fn:Func}{c:Code}{args:List Value}{K:Value→HO}{R:World→Hp→Prop}(m:Nat)(hf:P.funcs[f]?=some fn)(q:∀w hV,YG w em hV→Base ps→R w hV)(hb:fn.body=some c:=by rfl)(hn:fn.ntmps=m:=by rfl)(ha:Nat.ble args.length m=true:=by rfl)
    (h:∀w hV,YG w em hV→R w hV→CP P ⟨m,[]⟩ none (slots 0 args) (St w em hV ps []) c (bodyPost P fn fun e w'=>∃v,e=.returned v∧Since w em hV (K v).p w')   := by exact fun w hV see q=>gg q):Ok P f args ps K:=fun w hV sV hall=>
 XL.of (n:=⟨m,[]⟩) hf hb ⟨hn,rfl⟩ ha (St.begin hall) (h w hV ⟨sV,Dj.WM _⟩ (q w hV ⟨sV,Dj.WM _⟩ ⟨⟩))
inductive Kg:List HP→List HP→Prop where
 |nil {ps:List HP}:Kg [] ps
 |cons {x:HP} {r ps:List HP}:(∃i:Nat,ps[i]?=some x)→Kg r ps→Kg (x::r) ps
theorem Kg.all{r ps:List HP}{h:Hp}(k:Kg r ps)(a:All ps h):All r h:=by
 induction k with
 |nil=>exact All.nil _
 |cons e _ ih=>obtain⟨i,e⟩:=e;exact All.cons (a.get i e) (ih a)
section
variable{f:FuncId}{args caps vals:List Value}{X:Option α}{F:α→Option γ}{r:γ}{ar:Array Operand}{ats:Array TypeId}
theorem kv{V:α→Value}{T:α→Prop}(H:∀t,X=some t→Ok P f args ps' fun v=>HO.pure (v=V t))(ho:X.bind F=some r)(q:∀t,F t=some r→T t)[hfn:ZT P f](hg:gd L σ g=some true:=by rfl)(hn:Nat.blt d n.n=true:=by rfl)(hx:ev σ x=some (.func (.func f) #[] caps.toArray):=by rfl)(has:evs σ ar.toList=some vals:=by rfl)(ha:vals++caps=args:=by rfl)
    (hp:Kg ps' ps:=by repeat (first|exact Kg.nil|refine Kg.cons ix ?_)) (se:YG w0 hA hV:=by exact see) (h:∀t,T t→SP P n ρ ((d,V t)::σ) (St w0 hA hV ps os) L l Q:=by exact fun t q=>gg q):SP P n ρ σ (St w0 hA hV ps os) L (⟨some d,.call ⟨.value x,ar,ats⟩,tr,pos,af,g⟩::l) Q:=by
 obtain⟨t,hc,ho⟩:=bind_some ho;subst ha;exact SP.Z05 se (V t) hfn.h hg hn hx has (fun w hP _ sub ap=>H t hc w hP sub (hp.all ap)) (h t (q t ho))
theorem kk{K:α→Value→HO}{T:α→Value→Prop}(H:∀t,X=some t→Ok P f args ps' (K t))(ho:X.bind F=some r)(q:∀t,F t=some r→∀v,T t v)[hfn:ZT P f](hg:gd L σ g=some true)(hn:Nat.blt d n.n=true)(hx:ev σ x=some (.func (.func f) #[] caps.toArray))(has:evs σ ar.toList=some vals)(ha:vals++caps=args)
    (hp:Kg ps' ps) (se:YG w0 hA hV) (h:∀t v,T t v→SP P n ρ ((d,v)::σ) (St w0 hA hV ps (K t v::os)) L l Q):SP P n ρ σ (St w0 hA hV ps os) L (⟨some d,.call ⟨.value x,ar,ats⟩,tr,pos,af,g⟩::l) Q:=by
 obtain⟨t,hc,ho⟩:=bind_some ho;subst ha;exact SP.Ti se (K t) hfn.h hg hn hx has (fun w hP _ sub ap=>H t hc w hP sub (hp.all ap)) (fun v=>h t v (q t ho v))
theorem k0{V:α→Value}{M:α→List HO}{T:α→Prop}(H:∀t,X=some t→Ok P f args ps' fun v=>HO.Yr (v=V t) (HO.Yk (M t)))(ho:X.bind F=some r)(q:∀t,F t=some r→T t)[hfn:ZT P f](hg:gd L σ g=some true:=by rfl)(hn:Nat.blt d n.n=true:=by rfl)(hx:ev σ x=some (.func (.func f) #[] caps.toArray):=by rfl)(has:evs σ ar.toList=some vals:=by rfl)(ha:vals++caps=args:=by rfl)
    (hp:Kg ps' ps:=by repeat (first|exact Kg.nil|refine Kg.cons ix ?_)) (se:YG w0 hA hV:=by exact see) (h:∀t,T t→SP P n ρ ((d,V t)::σ) (St w0 hA hV ps (M t++os)) L l Q:=by exact fun t q=>gg q):SP P n ρ σ (St w0 hA hV ps os) L (⟨some d,.call ⟨.value x,ar,ats⟩,tr,pos,af,g⟩::l) Q:=
 kk H ho (fun t e _=>q t e) hg hn hx has ha hp se fun t v q=>SP.k0 (h t q) v
theorem k1{ι:Type}{V:α→ι→Value}{M:α→ι→List HO}{T:α→ι→Prop}(H:∀t,X=some t→Ok P f args ps' fun v=>HO.ex fun u=>HO.Yr (v=V t u) (HO.Yk (M t u)))(ho:X.bind F=some r)(q:∀t,F t=some r→∀u,T t u)[hfn:ZT P f](hg:gd L σ g=some true:=by rfl)(hn:Nat.blt d n.n=true:=by rfl)(hx:ev σ x=some (.func (.func f) #[] caps.toArray):=by rfl)(has:evs σ ar.toList=some vals:=by rfl)(ha:vals++caps=args:=by rfl)
    (hp:Kg ps' ps:=by repeat (first|exact Kg.nil|refine Kg.cons ix ?_)) (se:YG w0 hA hV:=by exact see) (h:∀t u,T t u→SP P n ρ ((d,V t u)::σ) (St w0 hA hV ps (M t u++os)) L l Q:=by exact fun t u q=>gg q):SP P n ρ σ (St w0 hA hV ps os) L (⟨some d,.call ⟨.value x,ar,ats⟩,tr,pos,af,g⟩::l) Q:=
 kk (T:=fun t _=>∀u,T t u) H ho (fun t e _=>q t e) hg hn hx has ha hp se fun t v q=>SP.k1 (fun u=>h t u (q u)) v
theorem k2{ι κ:Type}{V:α→ι→κ→Value}{M:α→ι→κ→List HO}{T:α→ι→κ→Prop}(H:∀t,X=some t→Ok P f args ps' fun v=>HO.ex fun u=>HO.ex fun z=>HO.Yr (v=V t u z) (HO.Yk (M t u z)))(ho:X.bind F=some r)(q:∀t,F t=some r→∀u z,T t u z)[hfn:ZT P f](hg:gd L σ g=some true:=by rfl)(hn:Nat.blt d n.n=true:=by rfl)(hx:ev σ x=some (.func (.func f) #[] caps.toArray):=by rfl)(has:evs σ ar.toList=some vals:=by rfl)(ha:vals++caps=args:=by rfl)
    (hp:Kg ps' ps:=by repeat (first|exact Kg.nil|refine Kg.cons ix ?_)) (se:YG w0 hA hV:=by exact see) (h:∀t u z,T t u z→SP P n ρ ((d,V t u z)::σ) (St w0 hA hV ps (M t u z++os)) L l Q:=by exact fun t u z q=>gg q):SP P n ρ σ (St w0 hA hV ps os) L (⟨some d,.call ⟨.value x,ar,ats⟩,tr,pos,af,g⟩::l) Q:=
 kk (T:=fun t _=>∀u z,T t u z) H ho (fun t e _=>q t e) hg hn hx has ha hp se fun t v q=>SP.k2 (fun u z=>h t u z (q u z)) v
theorem k3{ι κ μ:Type}{V:α→ι→κ→μ→Value}{M:α→ι→κ→μ→List HO}{T:α→ι→κ→μ→Prop}(H:∀t,X=some t→Ok P f args ps' fun v=>HO.ex fun u=>HO.ex fun z=>HO.ex fun y=>HO.Yr (v=V t u z y) (HO.Yk (M t u z y)))(ho:X.bind F=some r)(q:∀t,F t=some r→∀u z y,T t u z y)[hfn:ZT P f](hg:gd L σ g=some true:=by rfl)(hn:Nat.blt d n.n=true:=by rfl)(hx:ev σ x=some (.func (.func f) #[] caps.toArray):=by rfl)(has:evs σ ar.toList=some vals:=by rfl)(ha:vals++caps=args:=by rfl)
    (hp:Kg ps' ps:=by repeat (first|exact Kg.nil|refine Kg.cons ix ?_)) (se:YG w0 hA hV:=by exact see) (h:∀t u z y,T t u z y→SP P n ρ ((d,V t u z y)::σ) (St w0 hA hV ps (M t u z y++os)) L l Q:=by exact fun t u z y q=>gg q):SP P n ρ σ (St w0 hA hV ps os) L (⟨some d,.call ⟨.value x,ar,ats⟩,tr,pos,af,g⟩::l) Q:=
 kk (T:=fun t _=>∀u z y,T t u z y) H ho (fun t e _=>q t e) hg hn hx has ha hp se fun t v q=>SP.k3 (fun u z y=>h t u z y (q u z y)) v
end
inductive CB:List Nat→List Value→List (Nat×List Value)→Prop where
 |nil:CB [] [] []
 |cons {i:Nat} {v:Value} {c:List Value} {is:List Nat} {vs:List Value} {us:List (Nat×List Value)}:v.cells.toList=c→CB is vs us→CB (i::is) (v::vs) ((i,c)::us)
theorem CB.ca{is:List Nat}{vs:List Value}{us:List (Nat×List Value)}(h:CB is vs us):CA (is.zip vs) us∧is.length=vs.length:=by
 induction h with
 |nil=>exact⟨trivial,rfl⟩
 |cons e _ ih=>exact⟨⟨rfl,by rw[←e,Array.toArray_toList],ih.1⟩,by simp[ih.2]⟩
theorem bd{parts:Array (Nat×Operand)}{z vs:List Value}{pl:List (Nat×Nat)}{ucs:List (Nat×List Value)}(cs:List Value)(q:R)[hs:Shp P t z pl](he:evs σ (parts.toList.map (·.2))=some vs:=by rfl)(ca:CB (parts.toList.map (·.1)) vs ucs:=by repeat (first|exact CB.nil|apply CB.cons (by first|exact Zm0 (by assumption)|rfl)))(hf:Z5D pl z ucs=some cs:=by rfl)(hg:gd L σ g=some true:=by rfl)(hn:Nat.blt d n.n=true:=by rfl)
    (h:R→SP P n ρ ((d,.agg cs.toArray)::σ) A L l Q:=by exact fun q=>gg q):SP P n ρ σ A L (⟨some d,.build t parts,tr,pos,af,g⟩::l) Q:=by
 refine SP.val (Val.Z8K (us:=(parts.toList.map (·.1)).zip vs) hs.h ?_ ?_ ca.ca.1 hf) hg rfl hn (h q)
 ·rw[List.map_fst_zip (Nat.le_of_eq ca.ca.2)]
 ·rw[List.map_snd_zip (Nat.le_of_eq ca.ca.2.symm)];exact he
theorem li{R:Value→Prop}{len:Nat}{parts:Array (Nat×Operand)}{vs cs:List Value}{s bytes:Nat}(k:Kd α)(xs:List α)(q:∀v,R v)[hu:WR P t (.slice e)][hin:Inf P e cs s bytes](hs:s=k.sz:=by rfl)
    (he:evs σ (parts.toList.map (·.2))=some vs:=by rfl) (hp:parts.toList.map (fun q=>q.1)=keys 0 vs:=by rfl) (hsmall:Nat.ble (len*k.sz) 1000=true:=by rfl) (hpos:Nat.blt 0 (len*k.sz)=true:=by rfl) (hpk:Nat.blt 0 k.sz=true:=by rfl) (hlv:vs.length=len:=by rfl)
    (hz:szs k.sz vs=true:=by rfl) (hxs:∀a,All ps a→Flat k a (Z4R vs) xs:=by intro _ _;repeat (first|exact rfl|refine⟨_,_,rfl,rfl,?_⟩)) (hl:xs.length=len:=by rfl) (hg:gd L σ g=some true:=by rfl) (hn:Nat.blt d n.n=true:=by rfl)
    (h:∀v,R v→SP P n ρ ((d,v)::σ) (St w0 hA hV ps (Zg k e v xs::os)) L l Q:=by exact fun v q=>gg q):SP P n ρ σ (St w0 hA hV ps os) L (⟨some d,.buildSlice t len parts,tr,pos,af,g⟩::l) Q:=by
 subst hs;exact SP.lit hu.h hin.h hp he hsmall hpos hpk hlv hz rfl hxs hl hg hn fun v=>h v (q v)
section
variable{S:Type}{F:S→Option (S⊕γ)}{r:γ}{m m0 k:Nat}{o:S⊕γ}{s0:S}{e:List (Nat×Value)}{ps2:List HP}{nx:Act→World→Prop}
def LI(I:(S→List (Nat×Value)→List HO→Prop)→Prop)(F:S→Option (S⊕γ))(r:γ)(m0:Nat)(n:Fr)(w0:World)(hA hV:Hp)(ps:List HP):Nat→Act→World→Prop:=fun c a w=>
 I fun s e os=>∃m o,m<c∧c≤m0∧F s=some o∧next F m o=some r∧Env n e a∧St w0 hA hV ps os w
def MI(I:(Option (S⊕γ)→List (Nat×Value)→List HO→Prop)→Prop)(F:S→Option (S⊕γ))(r:γ)(m0:Nat)(n:Fr)(w0:World)(hA hV:Hp)(ps:List HP):Act→World→Prop:=fun a w=>
 I fun x e os=>∃m o,m≤m0∧x=some o∧next F m o=some r∧Env n e a∧St w0 hA hV ps os w
def MO(I:(Option γ→List (Nat×Value)→List HO→Prop)→Prop)(r:γ)(n:Fr)(w0:World)(hA hV:Hp)(ps:List HP):Act→World→Prop:=fun a w=>
 I fun x e os=>x=some r∧Env n e a∧St w0 hA hV ps os w
theorem St.pks(k:Kg ps' ps){w:World}(h:St w0 hA hV ps os w):St w0 hA hV ps' os w:=h.imp (fun _ a=>k.all a) (fun _ _ _ s=>s)
theorem en{a:Act}{w:World}(h:Env n σ a∧A w)(q:R)(g:R→CP P n ρ σ A cx Q:=by exact fun q=>gg q):cx.wpIn (FF ρ) 0 P Q a w:=g q a w h.1 h.2
theorem LI.of{c:Nat}{I:(S→List (Nat×Value)→List HO→Prop)→Prop}(hr:iter F c s0=some r)(hc:c≤m0){a:Act}{w:World}(h0:∀z:S→List (Nat×Value)→List HO→Prop,z s0 e os'→I z)(ha:Env n e a)(hw:St w0 hA hV ps os' w):LI I F r m0 n w0 hA hV ps c a w:=by
 obtain⟨m',o',hm,h1,h2⟩:=Jc hr;exact h0 _ ⟨m',o',by omega,hc,h1,h2,ha,hw⟩
theorem lo(ho:some (Sum.inl s0)=some o)(hr:next F m o=some r)(I:(S→List (Nat×Value)→List HO→Prop)→Prop)(h0:∀z:S→List (Nat×Value)→List HO→Prop,z s0 e os'→I z)
    (body:∀c a w,LI I F r m n w0 hA hV ps' c a w→cx.wpIn (FF ρ) 0 P (Exit.then (Lower (LI I F r m n w0 hA hV ps') c) Q) a w) (h:∀w,A w→St w0 hA hV ps2 os' w:=by exact fun _ h=>h) (hb:Base ps':=by exact pb) (hp:Kg ps' ps2:=by repeat (first|exact Kg.nil|refine Kg.cons ix ?_)) (sb:Z0M e σ:=by repeat (first|exact trivial|refine⟨rfl,?_⟩)):CP P n ρ σ A (.loop cx) Q:=by
 cases sI ho;exact CP.loop (LI I F r m n w0 hA hV ps') m (fun a w ha hw=>LI.of hr (Nat.le_refl _) h0 (ha.sub sb) (St.pks hp (h w hw))) body
theorem lw{I:(S→List (Nat×Value)→List HO→Prop)→Prop}(ho:some (Sum.inl s0)=some o)(hr:next F k o=some r)(h0:∀z:S→List (Nat×Value)→List HO→Prop,z s0 e os'→I z)(h:∀w,A w→St w0 hA hV ps2 os' w:=by exact fun _ h=>h)(hp:Kg ps' ps2:=by repeat (first|exact Kg.nil|refine Kg.cons ix ?_))(hk:k<m∧k≤m0:=by omega)(sb:Z0M e σ:=by repeat (first|exact trivial|refine⟨rfl,?_⟩)) :
    QE n σ A (Exit.then (Lower (LI I F r m0 n w0 hA hV ps') m) Q) .normal:=by
 cases sI ho;exact QE.lower k hk.1 fun a w ha hw=>LI.of hr hk.2 h0 (ha.sub sb) (St.pks hp (h w hw))
theorem ji(hr:next F m o=some r)(I:(Option (S⊕γ)→List (Nat×Value)→List HO→Prop)→Prop)(later:∀a w,MI I F r m n w0 hA hV ps' a w→cy.wpIn (FF ρ) 0 P Q a w)(now:CP P n ρ σ (St w0 hA hV ps os) cx (Exit.then (MI I F r m n w0 hA hV ps') Q))(hb:Base ps':=by exact pb):CP P n ρ σ (St w0 hA hV ps os) (.seq cx cy) Q:=CP.join _ later now
theorem jj(hr:next F m o=some r)(I:(Option (S⊕γ)→List (Nat×Value)→List HO→Prop)→Prop)(later:∀a w,MI I F r m n w0 hA hV ps' a w→nx a w)(now:CP P n ρ σ (St w0 hA hV ps os) cx (Exit.then (MI I F r m n w0 hA hV ps') Q))(hb:Base ps':=by exact pb):CP P n ρ σ (St w0 hA hV ps os) cx (Exit.then nx Q):=jo _ later now
theorem oi(r:γ)(I:(Option γ→List (Nat×Value)→List HO→Prop)→Prop)(later:∀a w,MO I r n w0 hA hV ps' a w→cy.wpIn (FF ρ) 0 P Q a w)(now:CP P n ρ σ (St w0 hA hV ps os) cx (Exit.then (MO I r n w0 hA hV ps') Q))(hb:Base ps':=by exact pb):CP P n ρ σ (St w0 hA hV ps os) (.seq cx cy) Q:=CP.join _ later now
theorem oj(r:γ)(I:(Option γ→List (Nat×Value)→List HO→Prop)→Prop)(later:∀a w,MO I r n w0 hA hV ps' a w→nx a w)(now:CP P n ρ σ (St w0 hA hV ps os) cx (Exit.then (MO I r n w0 hA hV ps') Q))(hb:Base ps':=by exact pb):CP P n ρ σ (St w0 hA hV ps os) cx (Exit.then nx Q):=jo _ later now
theorem mi{x:Option (S⊕γ)}{I:(Option (S⊕γ)→List (Nat×Value)→List HO→Prop)→Prop}(ho:x=some o)(hr:next F k o=some r)(h0:∀z:Option (S⊕γ)→List (Nat×Value)→List HO→Prop,z x e os'→I z)(h:∀w,A w→St w0 hA hV ps2 os' w:=by exact fun _ h=>h)(hp:Kg ps' ps2:=by repeat (first|exact Kg.nil|refine Kg.cons ix ?_))(hk:k≤m0:=by omega)(sb:Z0M e σ:=by repeat (first|exact trivial|refine⟨rfl,?_⟩)) :
    QE n σ A (Exit.then (MI I F r m0 n w0 hA hV ps') Q) .normal:=QE.meet fun _ w ha hw=>h0 _ ⟨k,o,hk,ho,hr,ha.sub sb,St.pks hp (h w hw)⟩
theorem mo{x:Option γ}{I:(Option γ→List (Nat×Value)→List HO→Prop)→Prop}(ho:x=some r)(h0:∀z:Option γ→List (Nat×Value)→List HO→Prop,z x e os'→I z)(h:∀w,A w→St w0 hA hV ps2 os' w:=by exact fun _ h=>h)(hp:Kg ps' ps2:=by repeat (first|exact Kg.nil|refine Kg.cons ix ?_))(sb:Z0M e σ:=by repeat (first|exact trivial|refine⟨rfl,?_⟩)) :
    QE n σ A (Exit.then (MO I r n w0 hA hV ps') Q) .normal:=QE.meet fun _ w ha hw=>h0 _ ⟨ho,ha.sub sb,St.pks hp (h w hw)⟩
end
section
variable{σ':List (Nat×Value)}{A':World→Prop}{r:γ}{X Y:Option γ}{c:Bool}
theorem jn(h:∀w,A w→A' w:=by exact fun _ h=>h)(s:Z0M σ' σ:=by repeat (first|exact trivial|refine⟨rfl,?_⟩)):QE n σ A (Exit.then (fun a w=>Env n σ' a∧A' w) Q) .normal:=QE.jn h s
theorem jb{b b':Bool}(e:b=b')(h:∀w,A w→A' w:=by exact fun _ h=>h)(hd:find d σ=some (.bool b):=by rfl)(s:Z0M σ' σ:=by repeat (first|exact trivial|refine⟨rfl,?_⟩)):QE n σ A (Exit.then (fun a w=>Env n ((d,.bool b')::σ') a∧A' w) Q) .normal:=QE.jb e h hd s
theorem sj{c:Bool}{l:List Oper}(k:Nat)(ks:List Nat)(d:Nat)(ho:(if c=true then X else Y)=some r)(later:SP P n ρ ((d,.bool c)::σ') A L (l.drop k) Q)(now:SP P n ρ σ A L (l.take k) (Exit.then (fun a w=>Env n ((d,.bool c)::σ') a∧A w) Q))(hp:Pk σ ks σ':=by repeat (first|exact Pk.nil|apply Pk.cons rfl)):SP P n ρ σ A L l Q:=SP.jn k ks d _ later now hp
theorem bb(d:Nat)(t:c=true→R)(f:c=false→R')(hb:find d σ=some (.bool c):=by rfl)(ht:R→SP P n ρ ((d,.bool true)::σ) A L l Q:=by exact fun q=>gg q)(hf:R'→SP P n ρ ((d,.bool false)::σ) A L l Q:=by exact fun q=>gg q):SP P n ρ σ A L l Q:=SP.bb d (fun e=>ht (t e)) (fun e=>hf (f e)) hb
theorem bi{c:Prop}[Decidable c](d:Nat)(ho:(if c then X else Y)=some r)(t:decide c=true→X=some r→R)(f:decide c=false→Y=some r→R')(hb:find d σ=some (.bool (decide c)):=by rfl)(ht:R→SP P n ρ ((d,.bool true)::σ) A L l Q:=by exact fun q=>gg q)(hf:R'→SP P n ρ ((d,.bool false)::σ) A L l Q:=by exact fun q=>gg q):SP P n ρ σ A L l Q:=SP.ci d ho (fun e h=>ht (t e h)) (fun e h=>hf (f e h)) hb
theorem bc(d:Nat)(ho:(if c=true then X else Y)=some r)(t:c=true→X=some r→R)(f:c=false→Y=some r→R')(hb:find d σ=some (.bool c):=by rfl)(ht:R→SP P n ρ ((d,.bool true)::σ) A L l Q:=by exact fun q=>gg q)(hf:R'→SP P n ρ ((d,.bool false)::σ) A L l Q:=by exact fun q=>gg q):SP P n ρ σ A L l Q:=SP.cb d ho (fun e h=>ht (t e h)) (fun e h=>hf (f e h)) hb
end
section
variable{k:Kd α}{xs:List α}{r:γ}{F:α→Option γ}{C:α→List Value}{x0:α}{p:Value}{fuel:Nat}{listed:Array Bool}{T:Nat→Bool}{S:World→Prop}{o:Oper}
theorem ip{T:α→Value→Prop}{j:Int}{ik:IntKind}{s:Nat}(i:Nat)(ho:(elt xs j).bind F=some r)(q:∀x0,F x0=some r→∀p,T x0 p)(se:YG w0 hA hV:=by exact see)(hi:ps[i]?=some (Z9 k v xs):=by rfl)[hu:WR P t (.slice e)][hs:UE P e s](hz:s=k.sz:=by rfl)(hg:gd L σ g=some true:=by rfl)(hn:Nat.blt d n.n=true:=by rfl)(hx:ev σ x=some v:=by rfl)(hy:ev σ y=some (.int ik j):=by rfl)
    (h:∀x0 p,T x0 p→SP P n ρ ((d,p)::σ) (St w0 hA hV (U8 k p x0::ps) os) L l Q:=by exact fun x0 p q=>gg q):SP P n ρ σ (St w0 hA hV ps os) L (⟨some d,.indexAddr t x y,tr,pos,af,g⟩::l) Q:=by
 obtain⟨x0,hx0,ho⟩:=Yu ho;subst hz;exact SP.Zly se i hi hu.h hs.h hx0.1 hx0.2 hg hn hx hy fun p=>h x0 p (q x0 ho p)
theorem ld{X5:TypeDesc}{s:Nat}(i:Nat)(q:R)[hk:Rd k C](se:YG w0 hA hV:=by exact see)(hi:ps[i]?=some (U8 k v x0):=by rfl)[hu:WR P t X5][hs:UE P t s](hz:s=k.sz:=by rfl)(hd:ag X5=true:=by rfl)(hg:gd L σ g=some true:=by rfl)(hn:Nat.blt d n.n=true:=by rfl)(hx:ev σ x=some v:=by rfl)
    (h:R→SP P n ρ ((d,.agg (C x0).toArray)::σ) (St w0 hA hV ps os) L l Q:=by exact fun q=>gg q):SP P n ρ σ (St w0 hA hV ps os) L (⟨some d,.load t x,tr,pos,af,g⟩::l) Q:=by
 subst hz;refine SP.ZeJ se i hi hu.h (by revert hd;cases X5<;>simp[ag]) hs.h hg hn hx fun cs a w ha hw=>?_;obtain⟨m,fr,hN,hO,n1,n2,dj,s1,s2,ap,s⟩:=hw;obtain rfl:=hk.h _ _ _ (ap.get 0 rfl);exact h q a w ha ⟨m,fr,hN,hO,n1,n2,dj,s1,s2,(fun y hy=>ap y (List.mem_cons_of_mem _ hy)),s⟩
theorem ge{T:α→Value→Prop}{j:Int}(i:Nat)(ho:(elt xs j).bind F=some r)(q:∀x0,F x0=some r→∀p,ZeK v k.sz j p→T x0 p)(se:YG w0 hA hV:=by exact see)(hi:ps[i]?=some (Z9 k v xs):=by rfl)(h:∀x0 p,T x0 p→DA P n ρ σ (St w0 hA hV (U8 k p x0::ps) os) L Q fuel listed:=by exact fun _ _ q=>q):DA P n ρ σ (St w0 hA hV ps os) L Q fuel listed:=by
 obtain⟨x0,hx,ho⟩:=Yu ho;exact DA.ghost (fun w2 h=>h.elem se i hi hx.1 hx.2) fun p hp=>h x0 p (q x0 ho p hp)
theorem gu(i:Nat)(q:R)[hk:Rd k C](se:YG w0 hA hV:=by exact see)(hi:ps[i]?=some (U8 k p x0):=by rfl)(h:R→DA P n ρ σ (St w0 hA hV (atP p (C x0)::ps) os) L Q fuel listed:=by exact fun q=>q):DA P n ρ σ (St w0 hA hV ps os) L Q fuel listed:=
 DA.ghost (fun w2 h=>h.Z1W se i hi (fun _:Unit=>C x0) (fun _=>[]) (fun h cs e=>⟨(),hk.h _ _ _ e,All.nil _⟩)) fun _ _=>h q
theorem d1(i:Nat)(q:R)(hi:nth L i=some o:=by rfl)(hr:(Region.ready .any L.toArray listed == [i])=true:=by kernel_rfl)(h:R→SP P n ρ σ A L [o] (atA P ρ L Q fuel (listed.setIfInBounds i true)):=by exact fun q=>gg q):DA P n ρ σ A L Q (fuel+1) listed:=DA.one i hi hr (h q)
theorem tk(i:Nat)(h:DT P n ρ ((d,v)::σ) S L Q T S fuel (listed.setIfInBounds i true))(hi:nth L i=some o:=by rfl)(hd:o.dst=some d:=by rfl)(hn:Nat.blt d n.n=true:=by rfl)(hg:gd L σ o.guard=some true:=by rfl)
    (hf:(Region.noSelect L.toArray&&Z0u L.toArray&&Z3c T L.toArray listed i&&(Region.ready .any L.toArray listed).contains i)=true:=by kernel_rfl)
    (hQ:∀c a w,Q (.panic c) (a.put o.dst v) w→Q (.panic c) a w:=by exact fun _ _ _ h=>h) (hv:Val P n σ S o v:=by exact Val.gh):DT P n ρ σ S L Q T S (fuel+1) listed:=
 DT.take i hi hd hn hg hf hQ hv (fun _ h=>h) h
theorem dz(q:R)(hr:(Region.ready .any L.toArray listed).isEmpty=true:=by kernel_rfl)(h:R→QE n σ A Q .normal:=by exact fun q=>gg q):DA P n ρ σ A L Q fuel listed:=DA.done hr (h q)
theorem dn(q:DA P n ρ σ A L Q fuel listed)(hT:((Region.ready .any L.toArray listed).all fun i => !T i)=true:=by kernel_rfl):DT P n ρ σ A L Q T S fuel listed:=DT.next hT q
theorem ts{os2:List HO}(i:Nat)(is:List Nat)(h:DT P n ρ ((d,v)::σ) (St w0 hA hV ps os) L Q T (St w0 hA hV ps os2) fuel (listed.setIfInBounds i true))(hi:nth L i=some o:=by rfl)(hd:o.dst=some d:=by rfl)(hn:Nat.blt d n.n=true:=by rfl)(hg:gd L σ o.guard=some true:=by rfl)
    (hf:(Region.noSelect L.toArray&&Z0u L.toArray&&Z3c T L.toArray listed i&&(Region.ready .any L.toArray listed).contains i)=true:=by kernel_rfl)
    (hQ:∀c a w,Q (.panic c) (a.put o.dst v) w→Q (.panic c) a w:=by exact fun _ _ _ h=>h) (hs1:nodup is=true:=by rfl) (hs2:Go.Q.sel is os=some os2:=by rfl) (hv:Val P n σ (St w0 hA hV ps os2) o v:=by exact Val.gh):DT P n ρ σ (St w0 hA hV ps os) L Q T (St w0 hA hV ps os2) (fuel+1) listed:=
 DT.take i hi hd hn hg hf hQ hv (fun _ h=>St.ZeL is hs1 hs2 h) h
theorem dr{id:Nat}(q:R)(hm:P.follows .mixedOrders=true:=by kernel_rfl)(h:R→DA P n ρ σ (St w0 hA hV ps os) L Q L.toArray.size (Array.replicate L.toArray.size false):=by exact fun q=>q):CP P n ρ σ (St w0 hA hV ps os) (.region id L.toArray true) Q:=CP.Zp2 hm (fun _ k h=>h.drawn k) (h q)
theorem bx{R:Nat→Prop}{cs:List Value}(q:∀b,R b)(hg:gd L σ g=some true:=by rfl)(hn:Nat.blt d n.n=true:=by rfl)(hx:ev σ x=some v:=by rfl)(hc:v.cells.toList=cs:=by rfl)
    (h:∀b,R b→SP P n ρ ((d,.pointer (some ⟨b,0,none⟩))::σ) (St w0 hA hV ps (Zl b cs t::os)) L l Q:=by exact fun b q=>gg q):SP P n ρ σ (St w0 hA hV ps os) L (⟨some d,.box t x,tr,pos,af,g⟩::l) Q:=SP.box hg hn hx (by rw[←hc,Array.toArray_toList]) fun b=>h b (q b)
theorem fz{T:TypeId}(i:Nat)(q:R)(se:YG w0 hA hV:=by exact see)(hi:os[i]?=some (Zg k T v xs):=by rfl)(h:R→SP P n ρ σ (St w0 hA hV (Z9 k v xs::ps) (os.eraseIdx i)) L l Q:=by exact fun q=>gg q):SP P n ρ σ (St w0 hA hV ps os) L l Q:=SP.Vk se i hi (h q)
end
theorem ex{ι:Type}{f:ι→HO}(q:∀u,SP P n ρ σ (St w0 hA hV ps (f u::os)) L l Q):SP P n ρ σ (St w0 hA hV ps (HO.ex f::os)) L l Q:=SP.ex (fun _ h=>St.open h) q
theorem ss{m:List HO}(q:SP P n ρ σ (St w0 hA hV ps (m++os)) L l Q):SP P n ρ σ (St w0 hA hV ps (HO.Yk m::os)) L l Q:=SP.imp (fun _ h=>St.Yk h) q
theorem so(is:List Nat)(q:R)(hn:nodup is=true:=by rfl)(hs:Go.Q.sel is os=some os':=by rfl)(h:R→SP P n ρ σ (St w0 hA hV ps os') L l Q:=by exact fun q=>gg q):SP P n ρ σ (St w0 hA hV ps os) L l Q:=SP.imp (fun _=>St.ZeL is hn hs) (h q)
theorem sn(k:Kd α)(T:TypeId)(q:SP P n ρ σ (St w0 hA hV ps (Zg k T (.slice none 0 0) ([]:List α)::os)) L l Q):SP P n ρ σ (St w0 hA hV ps os) L l Q:=SP.imp (fun _ hw=>St.Tc (Zg.nil k T) hw) q
theorem sg(m:List HO){os':List HO}(q:R)(e:m++os'=os:=by rfl)(h:R→SP P n ρ σ (St w0 hA hV ps (HO.Yk m::os')) L l Q:=by exact fun q=>gg q):SP P n ρ σ (St w0 hA hV ps os) L l Q:=by subst e;exact SP.imp (fun _ hw=>St.group m hw) (h q)
end
end Go.Q
namespace Go.Q
def ptrs(bs:List Nat):List (List Value):=bs.map fun b=>[pt b]
def koP{α:Type}(O:Nat→α→HO):Ko α:=
 ⟨⟨1,fun _ cs _=>∃b,cs=[pt b],fun _ _ _ _ _ h=>h,fun _ _ _ ⟨b,e⟩=>by simp[e],fun _ _ _ ⟨b,e⟩=>by subst e;rfl⟩,
  fun cs x=>HO.ex fun b:Nat=>HO.Yr (cs=[pt b]) (O b x),fun⟨b,e,_⟩ _ _=>⟨b,e⟩⟩
def Z1Y{α:Type}(O:Nat→α→HO)(bs:List Nat)(xs:List α):HO:=VJ (koP O) (ptrs bs) xs
theorem Zix(bs:List Nat):(ptrs bs).length=bs.length:=List.length_map _
theorem Ziy(bs cs:List Nat):ptrs (bs++cs)=ptrs bs++ptrs cs:=List.map_append
theorem Z1Y.len{α:Type}{O:Nat→α→HO}{bs:List Nat}{xs:List α}{a h:Hp}(q:(Z1Y O bs xs).p a h):bs.length=xs.length:=by
 have:=VJ.len q
 rwa [Zix]at this
theorem Z1Y.nil{α:Type}(O:Nat→α→HO)(a:Hp):(Z1Y O [] []).p a em:=trivial
theorem Z1Y.push{α:Type}{O:Nat→α→HO}{bs:List Nat}{xs:List α}{b:Nat}{x:α}{a h g:Hp}(dj:Dj h g)(p:(Z1Y O bs xs).p a h)(q:(O b x).p a g):(Z1Y O (bs ++ [b]) (xs ++ [x])).p a (un h g):=by
 unfold Z1Y;rw[Ziy];exact VJ.append dj p (VJ.one (k:=koP O) ⟨b,rfl,q⟩)
theorem Z1Y.take{α:Type}{O:Nat→α→HO}{a:Hp}:∀(n:Nat) {bs:List Nat} {xs:List α} {h:Hp},(Z1Y O bs xs).p a h→(Z1Y O (bs.take n) (xs.take n)).p a h
 | 0,bs,xs,h,q=>by simp only[List.take_zero];exact trivial
 |n+1,[],[],h,q=>q
 |n+1,b::bs,x::xs,h,⟨h1,h2,d,s1,s2,p,q⟩=>⟨h1,h2,d,s1,s2,p,Z1Y.take n q⟩
 |n+1,[],_::_,_,h=>h.elim
 |n+1,_::_,[],_,h=>h.elim
section
variable{P:Program}{n:Fr}{ρ:Option Nat}{σ:List (Nat×Value)}{w0 w:World}{hA hV:Hp}{ps:List HP}{os:List HO}{L l:List Oper}{Q:Cont}{d:Nat}{dd:Option Nat}{t e T tr:TypeId}{x y:Operand}{pos:String}{af:Array Edge}{g:Option (Nat×Bool)}{v u p:Value}{α:Type}{O:Nat→α→HO}{bs:List Nat}{xs:List α}{x0 x1:α}{j:Int}{b m off:Nat}
end
def Zm1{α:Type}(O:Nat→α→HO)(v:Value):Option α→HO
 |none=>HO.pure (v=.pointer none)
 |some x=>HO.ex fun b:Nat=>HO.Yr (v=.pointer (some ⟨b,0,none⟩)) (O b x)
theorem Zm1.nil{α:Type}(O:Nat→α→HO)(a:Hp):(Zm1 O (.pointer none) none).p a em:=rfl
section
variable{P:Program}{n:Fr}{ρ:Option Nat}{σ:List (Nat×Value)}{w0 w:World}{hA hV:Hp}{ps:List HP}{os:List HO}{L l:List Oper}{Q:Cont}{d:Nat}{dd:Option Nat}{t e T tr ty:TypeId}{x y:Operand}{pos:String}{af:Array Edge}{g:Option (Nat×Bool)}{v u p:Value}{α:Type}{O:Nat→α→HO}{o:Option α}{x0:α}{b m off N q:Nat}{k:Kd α}{xs:List α}{pre post:List Value}
end
section
variable{P:Program}{n:Fr}{ρ:Option Nat}{σ:List (Nat×Value)}{w0 w:World}{hA hV:Hp}{ps:List HP}{os:List HO}{L l:List Oper}{Q:Cont}{d:Nat}{dd:Option Nat}{t e T tr ty:TypeId}{x y:Operand}{pos:String}{af:Array Edge}{g:Option (Nat×Bool)}{v u p:Value}{α:Type}{O:Nat→α→HO}{bs:List Nat}{x0 x1:α}{b:Nat}{xs:List α}{j:Int}{ik:IntKind}
end
end Go.Q
namespace Go.Q
end Go.Q
