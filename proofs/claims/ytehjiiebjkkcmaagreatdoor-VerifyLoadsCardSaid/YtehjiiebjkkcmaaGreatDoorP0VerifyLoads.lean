/- Plain laws of the law VerifyLoads, its first part: what the program and the chapter tell of a module's rows and costs. -/
import Derived.Test.YtehjiiebjkkcmaaGreatDoorGVerifyLoads
set_option linter.unusedVariables false
set_option linter.unusedSimpArgs false
set_option linter.unusedSectionVars false
namespace Go.Proofs.YtehjiiebjkkcmaaGreatDoor
open Go.Q
def KZ(x:Zp):Prop:=(Lit.int .u8 x.Kind).wf=true∧(Lit.int .i64 x.A).wf=true∧(Lit.int .i64 x.B).wf=true
def Y5(x:Z7):Prop:=(Lit.int .u8 x.Op).wf=true∧(Lit.int .i64 x.A).wf=true∧(Lit.int .i64 x.B).wf=true
def Z3J(x:Zb):Prop:=(x.Args.length≤maxLen∧∀y∈x.Args,(Lit.int .u8 y).wf=true)∧(x.Zk.length≤maxLen∧∀y∈x.Zk,(Lit.int .u8 y).wf=true)∧(Lit.int .u8 x.Result).wf=true∧True∧(Lit.int .i64 x.Fuel).wf=true∧(Lit.int .i64 x.Stack).wf=true∧(Lit.int .i64 x.Heap).wf=true∧(x.Code.length≤maxLen∧∀y∈x.Code,Y5 y)
def XK(x:Zc):Prop:=(x.ZA.length≤maxLen∧∀y∈x.ZA,KZ y)∧(x.Pool.length≤maxLen∧∀y∈x.Pool,KZ y)∧(x.Methods.length≤maxLen∧∀y∈x.Methods,Z3J y)∧(Lit.int .i64 x.Zo).wf=true
namespace Zz
inductive Kn|loop|again(a:Nat)|other
deriving DecidableEq
def opn(K:Nat→Kn):Nat→List Nat
 | 0=>[]
 |i+1=>match K i with
  | .loop=>i::opn K i
  | .again _=>(opn K i).tail
  | .other=>opn K i
def good(K:Nat→Kn)(i:Nat):Prop:=match K i with
 | .loop=>(opn K i).length<4
 | .again a=>(opn K i).head?=some a
 | .other=>True
theorem Ja(K:Nat→Kn):∀(i:Nat),(∀j,j<i→good K j) →
    (∀f,f∈opn K i↔(K f=.loop∧f<i∧∀j,f<j→j<i→K j≠.again f))∧(opn K i).Pairwise (· > ·)∧(opn K i).length≤4
 | 0,_=>by simp[opn]
 |i+1,hg=>by
  obtain⟨h1,h2,h3⟩:=Ja K i (fun j hj=>hg j (by omega));have gi:=hg i (by omega);unfold good at gi;unfold opn;cases hk:K i with
  |loop=>
   rw[hk]at gi;simp only at gi ⊢;refine⟨fun f=>?_,?_,by simp;omega⟩
   ·rw[List.mem_cons,h1];constructor
    ·rintro(rfl|⟨a,b,c⟩)
     ·exact⟨hk,by omega,fun j h1 h2=>by omega⟩
     ·refine⟨a,by omega,fun j q1 q2=>?_⟩;by_cases e:j=i
      ·subst e;rw[hk];exact fun z=>Kn.noConfusion z
      ·exact c j q1 (by omega)
    ·rintro⟨a,b,c⟩;by_cases e:f=i
     ·exact .inl e
     ·exact .inr ⟨a,by omega,fun j q1 q2=>c j q1 (by omega)⟩
   ·rw[List.pairwise_cons];exact⟨fun x hx=>((h1 x).1 hx).2.1,h2⟩
  |again a=>
   rw[hk]at gi;simp only at gi ⊢;cases ho:opn K i with
   |nil=>rw[ho]at gi;cases gi
   |cons b T=>
    rw[ho]at gi h1 h2 h3;simp at gi;subst gi;rw[List.pairwise_cons]at h2;refine⟨fun f=>?_,h2.2,by simp at h3;simp;omega⟩;simp only[List.tail_cons];constructor
    ·intro hf;obtain⟨p,q,r⟩:=(h1 f).1 (List.mem_cons_of_mem _ hf);refine⟨p,by omega,fun j q1 q2=>?_⟩;by_cases e:j=i
     ·subst e;rw[hk];intro z;cases z;have:=h2.1 _ hf;omega
     ·exact r j q1 (by omega)
    ·rintro⟨p,q,r⟩;have hne:f≠i:=by rintro rfl;rw[hk]at p;cases p
     have:=(h1 f).2 ⟨p,by omega,fun j q1 q2=>r j q1 (by omega)⟩;rcases List.mem_cons.1 this with e|e
     ·subst e;exact absurd hk (r i (by omega) (by omega))
     ·exact e
  |other=>
   simp only;refine⟨fun f=>?_,h2,h3⟩;rw[h1];constructor
   ·rintro⟨a,b,c⟩;refine⟨a,by omega,fun j q1 q2=>?_⟩;by_cases e:j=i
    ·subst e;rw[hk];exact fun z=>Kn.noConfusion z
    ·exact c j q1 (by omega)
   ·rintro⟨a,b,c⟩;have hne:f≠i:=by rintro rfl;rw[hk]at a;cases a
    exact⟨a,by omega,fun j q1 q2=>c j q1 (by omega)⟩
theorem Z6V{α:Type}[DecidableEq α]:∀(l m:List α),l.Nodup→(∀x∈l,x∈m)→l.length≤m.length
 | [],_,_,_=>by simp
 |x::l,m,hn,hs=>by
  rw[List.nodup_cons]at hn;have hx:=hs x (by simp);have:=Z6V l (m.erase x) hn.2 (fun y hy=>(List.mem_erase_of_ne (by rintro rfl;exact hn.1 hy)).2 (hs y (by simp[hy])));rw[List.length_erase_of_mem hx]at this;have:0<m.length:=List.length_pos_of_mem hx;simp;omega
def Pr(K:Nat→Kn)(n f t:Nat):Prop:=f<n∧t<n∧K f=.loop∧K t=.again f
def Ok1(K:Nat→Kn)(n:Nat):Prop:=∀f,f<n→K f=.loop→∃t,Pr K n f t∧f≤t∧∀t',Pr K n f t'→t'=t
def Ok2(K:Nat→Kn)(n:Nat):Prop:=∀t a,t<n→K t=.again a→a<n∧K a=.loop
def Zj1(K:Nat→Kn)(n:Nat):Prop:=∀f t g u,Pr K n f t→Pr K n g u→f<g→g<t→u≤t
def Deep(n:Nat)(R:List (Nat×Nat)):Prop:=∀a,a<n→(R.filter fun x=>decide (x.1<a)&&decide (a≤x.2)).length≤4
def Run(K:Nat→Kn)(n:Nat):Prop:=(∀i,i<n→good K i)∧opn K n=[]
theorem Z3y{K:Nat→Kn}{n t f:Nat}(h:∀i,i<n→good K i)(ht:t<n)(hk:K t=.again f):∃T,opn K t=f::T:=by
 have:=h t ht;unfold good at this;rw[hk]at this;simp only at this;cases ho:opn K t with
 |nil=>rw[ho]at this;cases this
 |cons b T=>rw[ho]at this;simp at this;subst this;exact⟨T,rfl⟩
theorem Z01{K:Nat→Kn}{n:Nat}(h:Run K n):Ok1 K n∧Ok2 K n:=by
 obtain⟨hg,hn⟩:=h;have mem:=fun i (hi:i≤n)=>Ja K i (fun j hj=>hg j (by omega));have back:∀t a,t<n→K t=.again a→K a=.loop∧a<t∧∀j,a<j→j<t→K j≠.again a:=by
  intro t a ht hk;obtain⟨T,hT⟩:=Z3y hg ht hk;exact((mem t (by omega)).1 a).1 (by rw[hT];simp)
 refine⟨fun f hf hk=>?_,fun t a ht hk=>?_⟩
 ·have:∃t,f<t∧t<n∧K t=.again f:=by
   refine Classical.byContradiction fun hc=>?_;have:f∈opn K n:=((mem n (Nat.le_refl _)).1 f).2 ⟨hk,hf,fun j q1 q2 e=>hc ⟨j,q1,q2,e⟩⟩;rw[hn]at this;cases this
  obtain⟨t,h1,h2,h3⟩:=this;refine⟨t,⟨hf,h2,hk,h3⟩,by omega,fun t' ⟨_,p2,_,p4⟩=>?_⟩;obtain⟨-,q2,q3⟩:=back t' f p2 p4;obtain⟨-,r2,r3⟩:=back t f h2 h3;rcases Nat.lt_trichotomy t t' with z|z|z
  ·exact absurd h3 (q3 t h1 z)
  ·exact z.symm
  ·exact absurd p4 (r3 t' q2 z)
 ·obtain⟨a1,a2,-⟩:=back t a ht hk;exact⟨by omega,a1⟩
theorem Z4a{K:Nat→Kn}{n i:Nat}(hi:i≤n)(hg:∀j,j<i→good K j)(h1:Ok1 K n)(f:Nat):f∈opn K i↔∃t,Pr K n f t∧f<i∧i≤t:=by
 rw[(Ja K i hg).1];constructor
 ·rintro⟨a,b,c⟩;obtain⟨t,h,hl,-⟩:=h1 f (by omega) a;refine⟨t,h,b,?_⟩;rcases Nat.lt_or_ge t i with z|z
  ·have:f≠t:=by rintro rfl;have:=h.2.2;rw[this.1]at this;exact Kn.noConfusion this.2
   exact absurd h.2.2.2 (c t (by omega) z)
  ·exact z
 ·rintro⟨t,h,b,c⟩;refine⟨h.2.2.1,b,fun j q1 q2 e=>?_⟩;obtain⟨t0,_,_,hu⟩:=h1 f h.1 h.2.2.1;have e1:=hu t h;have e2:=hu j ⟨h.1,by omega,h.2.2.1,e⟩;omega
theorem Zet{K:Nat→Kn}{n:Nat}{R:List (Nat×Nat)}(hR:Ok1 K n→(∀x,x∈R↔Pr K n x.1 x.2)∧(R.map (·.1)).Nodup):Run K n↔Ok1 K n∧Ok2 K n∧Zj1 K n∧Deep n R:=by
 constructor
 ·intro h;obtain⟨h1,h2⟩:=Z01 h;obtain⟨hg,hn⟩:=h;obtain⟨hm,hnd⟩:=hR h1;refine⟨h1,h2,fun f t g u p q hfg hgt=>?_,fun a ha=>?_⟩
  ·rcases Nat.lt_or_ge t u with z|z
   ·have mg:g∈opn K t:=(Z4a (n:=n) (by have:=p.2.1;omega) (fun j hj=>hg j (by have:=p.2.1;omega)) h1 g).2 ⟨u,q,hgt,by omega⟩;obtain⟨T,hT⟩:=Z3y hg p.2.1 p.2.2.2;have pw:=(Ja K t (fun j hj=>hg j (by have:=p.2.1;omega))).2.1;rw[hT]at mg pw;rw[List.pairwise_cons]at pw;rcases List.mem_cons.1 mg with e|e
    ·omega
    ·have:=pw.1 _ e;omega
   ·exact z
  ·have l4:=(Ja K a (fun j hj=>hg j (by omega))).2.2;have:((R.filter fun x=>decide (x.1<a)&&decide (a≤x.2)).map (·.1)).length≤(opn K a).length:=by
    refine Z6V _ _ (List.Nodup.sublist (List.Sublist.map _ List.filter_sublist) hnd) (fun f hf=>?_);rw[List.mem_map]at hf;obtain⟨x,hx,rfl⟩:=hf;rw[List.mem_filter]at hx;simp only[Bool.and_eq_true,decide_eq_true_eq]at hx;exact(Z4a (n:=n) (by omega) (fun j hj=>hg j (by omega)) h1 _).2 ⟨x.2,(hm x).1 hx.1,hx.2.1,hx.2.2⟩
   rw[List.length_map]at this;omega
 ·rintro⟨h1,h2,h3,h4⟩;obtain⟨hm,hnd⟩:=hR h1;have hg:∀i,i≤n→∀j,j<i→good K j:=by
   intro i;induction i with
   |zero=>intro _ j hj;omega
   |succ i ih=>
    intro hi j hj;have ih:=ih (by omega);by_cases e:j=i
    ·subst e;unfold good;obtain⟨m1,m2,m3⟩:=Ja K j ih;cases hk:K j with
     |loop=>
      simp only;obtain⟨t,p,hl,-⟩:=h1 j (by omega) hk;have hne:j≠t:=by rintro rfl;rw[p.2.2.1]at hk;have:=p.2.2.2;rw[p.2.2.1]at this;exact Kn.noConfusion this
      have d:=h4 (j+1) (by have:=p.2.1;omega);have:(j::opn K j).length≤((R.filter fun x=>decide (x.1<j+1)&&decide (j+1≤x.2)).map (·.1)).length:=by
       refine Z6V _ _ ?_ (fun f hf=>?_)
       ·rw[List.nodup_cons];exact⟨fun hc=>by have:=((m1 j).1 hc).2.1;omega,m2.imp (fun h=>by omega)⟩
       ·rw[List.mem_map];rcases List.mem_cons.1 hf with e|e
        ·subst e;exact⟨(f,t),List.mem_filter.2 ⟨(hm _).2 p,by simp;omega⟩,rfl⟩
        ·obtain⟨u,q,q1,q2⟩:=(Z4a (n:=n) (by omega) ih h1 f).1 e;have:u≠j:=by rintro rfl;have:=q.2.2.2;rw[hk]at this;exact Kn.noConfusion this
         exact⟨(f,u),List.mem_filter.2 ⟨(hm _).2 q,by simp;omega⟩,rfl⟩
      rw[List.length_map,List.length_cons]at this;omega
     |again a=>
      simp only;obtain⟨ha,hl⟩:=h2 j a (by omega) hk;obtain⟨t,p,q,hu⟩:=h1 a ha hl;have e:=hu j ⟨ha,by omega,hl,hk⟩;subst e;have hne:a≠j:=by rintro rfl;rw[hl]at hk;exact Kn.noConfusion hk
      have ma:a∈opn K j:=(Z4a (n:=n) (by omega) ih h1 a).2 ⟨j,p,by omega,by omega⟩;cases ho:opn K j with
      |nil=>rw[ho]at ma;cases ma
      |cons b T=>
       rw[ho]at ma m2;rcases List.mem_cons.1 ma with e|e
       ·subst e;rfl
       ·rw[List.pairwise_cons]at m2;have hab:=m2.1 _ e;obtain⟨u,r,r1,r2⟩:=(Z4a (n:=n) (by omega) ih h1 b).1 (by rw[ho];simp);have:=h3 a j b u p r hab r1;have:u=j:=by omega
        subst this;have:=r.2.2.2;rw[hk]at this;cases this;omega
     |other=>trivial
    ·exact ih j (by omega)
  have hg:=hg n (Nat.le_refl _);refine⟨hg,?_⟩;rw[List.eq_nil_iff_forall_not_mem];intro f hf;obtain⟨t,p,-,q⟩:=(Z4a (n:=n) (Nat.le_refl _) hg h1 f).1 hf;have:=p.2.1;omega
def RL(K:Nat→Kn)(n:Nat):List (Nat×Nat):=(List.range n).flatMap fun f=>if K f=.loop then((List.range n).filter fun t=>decide (K t=.again f)).map fun t=>(f,t)else []
def OL(K:Nat→Kn)(n:Nat):List (Nat×Nat):=(List.range n).filterMap fun t=>match K t with | .again a=>some (a,t) | _=>none
theorem Z1b{K:Nat→Kn}{n:Nat}(x:Nat×Nat):x∈RL K n↔Pr K n x.1 x.2:=by
 unfold RL Pr;rw[List.mem_flatMap];constructor
 ·rintro⟨f,hf,hx⟩;split at hx
  ·rename_i hk
   rw[List.mem_map]at hx;obtain⟨t,ht,rfl⟩:=hx;rw[List.mem_filter]at ht;simp only[List.mem_range,decide_eq_true_eq]at ht hf;exact⟨hf,ht.1,hk,ht.2⟩
  ·cases hx
 ·rintro⟨h1,h2,h3,h4⟩;refine⟨x.1,List.mem_range.2 h1,?_⟩;rw[if_pos h3,List.mem_map];exact⟨x.2,List.mem_filter.2 ⟨List.mem_range.2 h2,by simpa using h4⟩,rfl⟩
theorem Z6W{K:Nat→Kn}{n:Nat}(h:Ok1 K n):(RL K n).Pairwise fun x y=>x.1<y.1:=by
 unfold RL;rw[List.pairwise_flatMap];refine⟨fun f hf=>?_,?_⟩
 ·split
  ·rename_i hk
   obtain⟨t,-,-,hu⟩:=h f (List.mem_range.1 hf) hk;rw[List.pairwise_map];refine List.Pairwise.imp_of_mem (R:=fun a b=>a≠b) (fun {a b} ha hb hne=>absurd ?_ hne) (List.nodup_range.sublist List.filter_sublist);rw[List.mem_filter,List.mem_range,decide_eq_true_eq]at ha hb;rw[hu a ⟨List.mem_range.1 hf,ha.1,hk,ha.2⟩,hu b ⟨List.mem_range.1 hf,hb.1,hk,hb.2⟩]
  ·exact List.Pairwise.nil
 ·refine List.pairwise_lt_range.imp fun {a b} hab x hx y hy=>?_;have e:∀f,∀z∈(if K f=.loop then((List.range n).filter fun t=>decide (K t=.again f)).map fun t=>(f,t)else []),z.1=f:=by
   intro f z hz;split at hz
   ·rw[List.mem_map]at hz;obtain⟨_,_,rfl⟩:=hz;rfl
   ·cases hz
  rw[e a x hx,e b y hy];exact hab
theorem Zdc{K:Nat→Kn}{n:Nat}(h:Ok1 K n):((RL K n).map (·.1)).Nodup:=by
 show List.Pairwise _ _;rw[List.pairwise_map];exact(Z6W h).imp fun h=>Nat.ne_of_lt h
theorem Z9s{K:Nat→Kn}{n:Nat}(h:Ok2 K n)(x:Nat×Nat):x∈OL K n↔Pr K n x.1 x.2:=by
 unfold OL Pr;rw[List.mem_filterMap];constructor
 ·rintro⟨t,ht,hx⟩;cases hk:K t with
  |again a=>
   rw[hk]at hx;simp at hx;subst hx;obtain⟨h1,h2⟩:=h t a (List.mem_range.1 ht) hk;exact⟨h1,List.mem_range.1 ht,h2,hk⟩
  |loop=>rw[hk]at hx;cases hx
  |other=>rw[hk]at hx;cases hx
 ·rintro⟨h1,h2,h3,h4⟩;exact⟨x.2,List.mem_range.2 h2,by rw[h4]⟩
theorem ZdD{K:Nat→Kn}{n:Nat}(h1:Ok1 K n)(h2:Ok2 K n):(OL K n).Pairwise fun x y=>x.1≠y.1:=by
 unfold OL;rw[List.pairwise_filterMap];refine List.Pairwise.imp_of_mem (R:=fun a b=>a≠b) (fun {a b} ha hb hne x hx y hy=>?_) List.nodup_range;rw[List.mem_range]at ha hb;have key:∀t x,t<n→(match K t with | .again a=>some (a,t) | _=>none)=some x→Pr K n x.1 t:=by
  intro t x ht hx;have:=(Z9s h2 x).1 (List.mem_filterMap.2 ⟨t,List.mem_range.2 ht,hx⟩);have e:x.2=t:=by
   cases hk:K t with
   |again a=>rw[hk]at hx;simp at hx;subst hx;rfl
   |loop=>rw[hk]at hx;cases hx
   |other=>rw[hk]at hx;cases hx
  rwa [e]at this
 intro e;have p:=key a x ha hx;have q:=key b y hb hy;rw[←e]at q;obtain⟨t,-,-,hu⟩:=h1 _ p.1 p.2.2.1;exact hne ((hu a p).trans (hu b q).symm)
theorem Zb1{α:Type}{key:α→Int}:∀(l m:List α),l.Pairwise (fun x y=>key x<key y)→m.Pairwise (fun x y=>key x<key y)→(∀x,x∈l↔x∈m)→l=m
 | [],[],_,_,_=>rfl
 | [],y::m,_,_,h=>absurd ((h y).2 (by simp)) (by simp)
 |x::l,[],_,_,h=>absurd ((h x).1 (by simp)) (by simp)
 |x::l,y::m,hl,hm,h=>by
  rw[List.pairwise_cons]at hl hm;have hxy:x=y:=by
   rcases List.mem_cons.1 ((h x).1 (by simp))with e|e
   ·exact e
   ·rcases List.mem_cons.1 ((h y).2 (by simp))with e'|e'
    ·exact e'.symm
    ·have:=hl.1 _ e';have:=hm.1 _ e;omega
  subst hxy;rw[Zb1 l m hl.2 hm.2 fun z=>?_];constructor
  ·intro hz;rcases List.mem_cons.1 ((h z).1 (List.mem_cons_of_mem _ hz))with e|e
   ·subst e;have:=hl.1 _ hz;omega
   ·exact e
  ·intro hz;rcases List.mem_cons.1 ((h z).2 (List.mem_cons_of_mem _ hz))with e|e
   ·subst e;have:=hm.1 _ hz;omega
   ·exact e
theorem Zhj{α:Type}{key:α→Int}{g:Nat×Nat→α}(hkey:∀x,key (g x)=(x.1:Int)){K:Nat→Kn}{n:Nat}(h1:Ok1 K n)(h2:Ok2 K n){s:List α}(hp:s.Perm ((OL K n).map g))(hs:s.Pairwise fun x y=>key x≤key y):s=(RL K n).map g:=by
 refine Zb1 (key:=key) s _ ?_ ?_ fun x=>?_
 ·have hd:s.Pairwise fun x y=>key x≠key y:=by
   refine(hp.pairwise_iff (fun {x y} h=>Ne.symm h)).2 ?_;rw[List.pairwise_map];refine(ZdD h1 h2).imp fun {a b} h=>?_;rw[hkey,hkey];omega
  exact(hs.and hd).imp fun⟨a,b⟩=>by omega
 ·rw[List.pairwise_map];refine(Z6W h1).imp fun {a b} h=>?_;rw[hkey,hkey];omega
 ·rw[hp.mem_iff,List.mem_map,List.mem_map];constructor
  ·rintro⟨a,ha,rfl⟩;exact⟨a,(Z1b a).2 ((Z9s h2 a).1 ha),rfl⟩
  ·rintro⟨a,ha,rfl⟩;exact⟨a,(Z9s h2 a).2 ((Z1b a).1 ha),rfl⟩
def FL(K:Nat→Kn)(n f:Nat):List Nat:=(List.range n).filter fun t=>decide (K t=.again f)
theorem Z6X{K:Nat→Kn}{n f t:Nat}:t∈FL K n f↔t<n∧K t=.again f:=by
 unfold FL;rw[List.mem_filter,List.mem_range,decide_eq_true_eq]
theorem Zaz{K:Nat→Kn}{n:Nat}:Ok1 K n↔∀f,f<n→K f=.loop→∃t,FL K n f=[t]∧f≤t:=by
 constructor
 ·intro h f hf hk;obtain⟨t,p,hl,hu⟩:=h f hf hk;refine⟨t,?_,hl⟩;have hn:(FL K n f).Nodup:=List.nodup_range.sublist List.filter_sublist;have ha:∀x∈FL K n f,x=t:=fun x hx=>hu x ⟨hf,(Z6X.1 hx).1,hk,(Z6X.1 hx).2⟩;have hm:t∈FL K n f:=Z6X.2 ⟨p.2.1,p.2.2.2⟩;cases hF:FL K n f with
  |nil=>rw[hF]at hm;cases hm
  |cons a r=>
   rw[hF]at hn ha;obtain rfl:=ha a (by simp);cases r with
   |nil=>rfl
   |cons b r=>
    obtain rfl:=ha b (by simp);simp at hn
 ·intro h f hf hk;obtain⟨t,e,hl⟩:=h f hf hk;have hm:=Z6X.1 (show t∈FL K n f by rw[e];simp);refine⟨t,⟨hf,hm.1,hk,hm.2⟩,hl,fun t' p=>?_⟩;have:=Z6X.2 ⟨p.2.1,p.2.2.2⟩;rw[e]at this;simpa using this
end Zz
namespace Zz
theorem Zj2(d:Array YO):(Z0b d).toList.Perm d.toList∧(Z0b d).toList.Pairwise (fun x y=>x.From≤y.From):=by
 obtain⟨⟨h1,-,h2⟩,h3⟩:=Z7U d;refine⟨?_,?_⟩
 ·have e1:(Z0b d).extract 0 d.size=Z0b d:=by rw[←h1];simp
  have e2:d.extract 0 d.size=d:=by simp
  rw[e1,e2]at h2;exact h2
 ·rw[List.pairwise_iff_getElem];intro i j hi hj hij;have hi':i<(Z0b d).size:=by simpa using hi
  have hj':j<(Z0b d).size:=by simpa using hj
  have:=h3 i j (Nat.zero_le _) hij (by omega);rw[Zfb,getElem!_pos (Z0b d) i hi',getElem!_pos (Z0b d) j hj']at this;have:=of_decide_eq_false this;simp only[Array.getElem_toList];omega
end Zz
namespace Zz
theorem Tx{S R:Type}{F:S→Option (S⊕R)}{n:Nat}{b:R}(s:Nat→S)(p:Nat→Prop)(hs:∀k,k<n→(∀j,j<k→p j)→p k→Zw F (s k)=Zw F (s (k+1)))(hb:∀k,k<n→(∀j,j<k→p j)→¬p k→Zw F (s k)=some b) :
    ((∀k,k<n→p k)→Zw F (s 0)=Zw F (s n))∧(¬(∀k,k<n→p k)→Zw F (s 0)=some b):=by
 have key:∀m,m≤n→(∀j,j<m→p j)→Zw F (s 0)=Zw F (s m):=by
  intro m;induction m with
  |zero=>intro _ _;rfl
  |succ m ih=>intro hm hp;rw[ih (by omega) (fun j hj=>hp j (by omega)),hs m (by omega) (fun j hj=>hp j (by omega)) (hp m (by omega))]
 have key2:∀m,m≤n→(∀j,j<m→p j)∨Zw F (s 0)=some b:=by
  intro m;induction m with
  |zero=>intro _;left;intro j hj;omega
  |succ m ih=>
   intro hm;rcases ih (by omega)with h|h
   ·by_cases hp:p m
    ·left;intro j hj;by_cases e:j=m
     ·subst e;exact hp
     ·exact h j (by omega)
    ·right;rw[key m (by omega) h,hb m (by omega) h hp]
   ·right;exact h
 refine⟨key n (Nat.le_refl _),fun h=>?_⟩;rcases key2 n (Nat.le_refl _)with h'|h'
 ·exact absurd h' h
 ·exact h'
theorem Z02{S R:Type}{F:S→Option (S⊕R)}{n:Nat}{b:R}{a:Nat→R}(s:Nat→S)(p:Nat→Bool)(hs:∀k,k<n→F (s k)=some (if p k then .inr (a k)else .inl (s (k+1))))(hb:F (s n)=some (.inr b)) :
    ∃r,Zw F (s 0)=some r∧((∃k,k<n∧p k=true∧r=a k)∨((∀k,k<n→p k=false)∧r=b)):=by
 have key:∀m k,k+m=n→(∀j,j<k→p j=false)→∃r,Zw F (s k)=some r∧((∃k,k<n∧p k=true∧r=a k)∨((∀k,k<n→p k=false)∧r=b)):=by
  intro m;induction m with
  | zero => intro k e h;obtain rfl:k=n:=by omega
            exact⟨b,Zf hb,.inr ⟨h,rfl⟩⟩
  |succ m ih=>
   intro k e h;have hk:=hs k (by omega);cases hp:p k with
   |true=>rw[hp]at hk;exact⟨a k,Zf hk,.inl ⟨k,by omega,hp,rfl⟩⟩
   |false=>
    rw[hp]at hk;rw[Ze hk];refine ih (k+1) (by omega) fun j hj=>?_;by_cases e:j=k
    ·subst e;exact hp
    ·exact h j (by omega)
 exact key n 0 (by omega) (fun j hj=>by omega)
theorem Z2d(k:Nat)(h:0<k)(h2:k<4611686018427387904):IntKind.i64.wrap ((k:Int)-1)=((k-1:Nat):Int):=by
 rw[ZW (by omega) (by omega)];omega
theorem Uu{α:Type}{xs:List α}{i:Int}(h0:0≤i)(h:i.toNat<xs.length):elt xs i=some xs[i.toNat]:=by
 unfold elt;rw[if_pos h0,List.getElem?_eq_getElem h]
theorem Z7E{i:Z7}(h:Y5 i):0≤i.Op∧i.Op<256:=by
 have:=h.1;simp[Lit.wf,IntKind.min,IntKind.max,IntKind.signed,IntKind.bits]at this;omega
theorem ZdE(n:Fin 256):(Vx.f (n.1:Int)).isSome=true:=by
 revert n;decide +kernel
theorem Zb2{x:Int}(h0:0≤x)(h1:x<256):∃b,Vx.f x=some b:=by
 obtain⟨n,rfl⟩:=Int.eq_ofNat_of_zero_le h0;exact Option.isSome_iff_exists.1 (ZdE ⟨n,by omega⟩)
def may(i:Z7):Bool:=match Vx.f i.Op with
 |some b=>((decide (i.A≥b.1))&&(decide (i.A≤b.2)))&&(decide (i.B=0))
 |none=>false
theorem Zdd{i:Z7}(h:Y5 i):Z1P.f i=some (may i):=by
 obtain⟨h0,h1⟩:=Z7E h;obtain⟨b,hb⟩:=Zb2 h0 h1;unfold Z1P.f may;rw[hb];rfl
theorem KN{i:Z7}(h:may i=true)(ho:i.Op=26∨i.Op=27∨i.Op=29):0≤i.A∧i.A≤199∧i.B=0:=by
 unfold may at h;have e:Vx.f i.Op=some (0,199):=by rcases ho with e|e|e<;>rw[e]<;>decide +kernel
 rw[e]at h;simp at h;omega
theorem Z6Y{l:List Z7}(hl:l.length<4611686018427387904)(hw:∀x∈l,Y5 x):XP.f l=some (l.any fun x => !may x):=by
 unfold XP.f Yb.f;rw[Ze (t :=.l1 ((0:Nat):Int)) rfl];obtain⟨r,hr,hc⟩:=Z02 (F:=Yb.F l) (n:=l.length) (b := -1) (a:=fun k=>(k:Int)) (fun k =>.l1 (k:Int)) (fun k=>if h:k<l.length then !may l[k]else false) (fun k hk=>by
  dsimp only[Yb.F];rw[if_pos (by omega),Zy hk];simp only[bS];unfold Z0W.f;rw[Zdd (hw _ (List.getElem_mem hk))];simp only[bS,dif_pos hk,Zu k (by omega)];cases may l[k]<;>rfl) (by dsimp only[Yb.F];rw[if_neg (by omega)])
 rw[hr];simp only[bS];congr 1;rw[Bool.eq_iff_iff];simp only[decide_eq_true_eq,List.any_eq_true];rcases hc with ⟨k,hk,hp,rfl⟩|⟨hn,rfl⟩
 ·rw[dif_pos hk]at hp;exact⟨fun _=>⟨_,List.getElem_mem hk,hp⟩,fun _=>by omega⟩
 ·refine⟨fun h=>by omega,fun⟨x,hx,hp⟩=>?_⟩;obtain⟨k,hk,rfl⟩:=List.mem_iff_getElem.1 hx;have:=hn k hk;rw[dif_pos hk,hp]at this;cases this
end Zz
namespace Zz
def KK(l:List Z7)(k:Nat):Kn:=match l[k]? with
 |some x=>if x.Op=28 then .loop else if x.Op=29 then .again x.A.toNat else .other
 |none =>.other
def turns(l:List Z7)(k:Nat):Int:=(l.getD k Z7.zero).A
def gF(l:List Z7)(x:Nat×Nat):YO:=⟨x.1,x.2,turns l x.1⟩
def arr(K:Nat→Kn):Nat→List Int
 | 0=>List.replicate 4 0
 |i+1=>match K i with
  | .loop=>(arr K i).set (opn K i).length i
  | _=>arr K i
theorem Zj3(K:Nat→Kn)(i:Nat):arr K (i+1)=match K i with
    | .loop=>(arr K i).set (opn K i).length i
    | _=>arr K i:=rfl
theorem Zj4(K:Nat→Kn)(i:Nat):opn K (i+1)=match K i with
    | .loop=>i::opn K i
    | .again _=>(opn K i).tail
    | .other=>opn K i:=rfl
theorem take_set{α:Type}{v:α}:∀(a:List α) (m:Nat),m<a.length→(a.set m v).take (m+1)=a.take m ++ [v]
 | [],m,h=>by simp at h
 |x::a,0,h=>by simp
 |x::a,m+1,h=>by
  have:=take_set (v:=v) a m (by simpa using h);simp only[List.set_cons_succ,List.take_succ_cons,this,List.cons_append]
theorem ZaA(K:Nat→Kn):∀i,(arr K i).length=4
 | 0=>rfl
 |i+1=>by unfold arr;split<;>simp[ZaA K i]
theorem Zde(K:Nat→Kn):∀(i:Nat),(∀j,j<i→good K j)→(arr K i).take (opn K i).length=(opn K i).reverse.map fun(x:Nat)=>(x:Int)
 | 0,_=>rfl
 |i+1,hg=>by
  have ih:=Zde K i (fun j hj=>hg j (by omega));have gi:=hg i (by omega);unfold good at gi;rw[Zj3,Zj4];cases hk:K i with
  |loop=>
   rw[hk]at gi;simp only at gi ⊢;rw[List.length_cons,take_set _ _ (by rw[ZaA];omega),ih];simp
  |again a=>
   rw[hk]at gi;simp only at gi ⊢;cases ho:opn K i with
   |nil=>rw[ho]at gi;cases gi
   |cons b T=>
    rw[ho]at ih;simp only[List.tail_cons];simp only[List.length_cons,List.reverse_cons,List.map_append,List.map_cons,List.map_nil]at ih;have:(arr K i).take T.length=((arr K i).take (T.length+1)).take T.length:=by
     rw[List.take_take];congr 1;omega
    rw[this,ih,List.take_append_of_le_length (by simp),List.take_of_length_le (by simp)]
  |other=>exact ih
theorem ZaB(K:Nat→Kn)(i:Nat):OL K (i+1)=OL K i++(match K i with | .again a=>[(a,i)] | _=>[]):=by
 unfold OL;rw[List.range_succ,List.filterMap_append];congr 1;cases h:K i<;>simp[h]
theorem ZfK(K:Nat→Kn)(i:Nat):(OL K i).length≤i:=by
 unfold OL;exact Nat.le_trans (List.length_filterMap_le _ _) (by simp)
theorem Z7F{l:List Z7}{k:Nat}(h:k<l.length):KK l k=if l[k].Op=28 then .loop else if l[k].Op=29 then .again l[k].A.toNat else .other:=by
 unfold KK;rw[List.getElem?_eq_getElem h]
theorem Zdf{l:List Z7}{k:Nat}(h:k<l.length):turns l k=l[k].A:=by
 unfold turns;rw[List.getD_eq_getElem?_getD,List.getElem?_eq_getElem h];rfl
theorem Z51{l:List Z7}{k f:Nat}(hk:k<l.length)(hm:∀x∈l,may x=true):KK l k=.again f↔(l[k].Op=29∧l[k].A=f):=by
 rw[Z7F hk];constructor
 ·intro h;split at h
  ·cases h
  ·split at h
   ·rename_i h28 VB
    have:=KN (hm _ (List.getElem_mem hk)) (.inr (.inr VB));cases h;exact⟨VB,by omega⟩
   ·cases h
 ·rintro⟨VB,hA⟩;rw[if_neg (by omega),if_pos VB,hA];rfl
theorem Z39{l:List Z7}{k:Nat}(hk:k<l.length):KK l k=.loop↔l[k].Op=28:=by
 rw[Z7F hk];constructor
 ·intro h;split at h
  ·assumption
  ·split at h<;>cases h
 ·intro h;rw[if_pos h]
def RLp(K:Nat→Kn)(n m:Nat):List (Nat×Nat):=(List.range m).flatMap fun f=>if K f=.loop then(FL K n f).map fun t=>(f,t)else []
theorem Zlb(K:Nat→Kn)(n:Nat):RLp K n n=RL K n:=rfl
theorem Z8v(K:Nat→Kn)(n m:Nat):RLp K n (m+1)=RLp K n m++(if K m=.loop then(FL K n m).map fun t=>(m,t)else []):=by
 unfold RLp;rw[List.range_succ,List.flatMap_append];simp
def p1(K:Nat→Kn)(n k:Nat):Prop:=K k=.loop→∃t,FL K n k=[t]∧k≤t
def p2(K:Nat→Kn)(n k:Nat):Prop:=∀a,K k=.again a→a<n∧K a=.loop
theorem Z6Z{K:Nat→Kn}{n:Nat}:∀(m:Nat),(∀j,j<m→p1 K n j)→(RLp K n m).length≤m
 | 0,_=>by simp[RLp]
 |m+1,h=>by
  have ih:=Z6Z m (fun j hj=>h j (by omega));rw[Z8v,List.length_append];split
  ·rename_i hk
   obtain⟨t,ht,-⟩:=h m (by omega) hk;rw[ht];simp;omega
  ·simp;omega
theorem Z70{l:List Z7}(h1:Ok1 (KK l) l.length):(RL (KK l) l.length).length≤l.length:=by
 rw[←Zlb];exact Z6Z _ (Zaz.1 h1)
def st(l:List Z7)(k:Nat):Yq.S :=.l1 (arr (KK l) k) (opn (KK l) k).length ((OL (KK l) k).map (gF l)) k
theorem ZdF{l:List Z7}(hl:l.length≤200)(hm:∀x∈l,may x=true) :
    ((∀k,k<l.length→good (KK l) k)→Zw (Yq.F l) (st l 0)=Zw (Yq.F l) (st l l.length))∧(¬(∀k,k<l.length→good (KK l) k)→Zw (Yq.F l) (st l 0)=some ([],90)):=by
 refine Tx (F:=Yq.F l) (st l) (good (KK l)) (fun k hk hg hp=>Ze ?_) (fun k hk hg hp=>Zf ?_)
 all_goals
  have hkk:=Z7F hk;have m4:=(Ja (KK l) k hg).2.2;have hat:=Zde (KK l) k hg;have hal:=ZaA (KK l) k;dsimp only[st,Yq.F];rw[if_pos (by omega),Zy hk];simp only[bS]
 ·
  by_cases h28:l[k].Op=28
  ·rw[if_pos h28]at hkk;unfold good at hp;rw[hkk]at hp;simp only at hp;rw[if_pos h28];unfold TG.f;rw[if_neg (by omega),Zy (by omega)];simp only[bS];rw[if_neg (by simp)];unfold Yq.j2;rw[Zu _ (by omega),Zu _ (by omega),ZaB,hkk];simp only[arr,opn,hkk,List.length_cons,Int.toNat_natCast,List.append_nil]
  ·rw[if_neg h28]at hkk;rw[if_neg h28];by_cases VB:l[k].Op=29
   ·rw[if_pos VB]at hkk;rw[if_pos VB];have hA:=KN (hm _ (List.getElem_mem hk)) (.inr (.inr VB));unfold good at hp;rw[hkk]at hp;simp only at hp;cases ho:opn (KK l) k with
    |nil=>rw[ho]at hp;cases hp
    |cons b T=>
     rw[ho]at hp hat m4;simp only[List.head?_cons,Option.some.injEq]at hp;have hb:b<k:=((Ja (KK l) k hg).1 b).1 (by rw[ho];simp)|>.2.1
     have hbl:b<l.length:=by omega
     have hel:elt (arr (KK l) k) (IntKind.i64.wrap (((b::T).length:Int)-1))=some (b:Int):=by
      simp only[List.length_cons]at hat m4 ⊢;rw[Z2d _ (by omega) (by omega),Z5i];have:=congrArg (fun z=>z[T.length]?) hat;simp only[List.reverse_cons,List.map_append,List.map_cons,List.map_nil]at this;rw[List.getElem?_take_of_lt (by omega),List.getElem?_append_right (by simp)]at this;simpa using this
     unfold V8.f;rw[if_neg (by simp;omega),hel];simp only[bS];have hbA:l[k].A=(b:Int):=by omega
     rw[←hp]at hkk;unfold V8.j1;rw[if_neg (by simp[hbA])];simp only[bS,Bool.not_true,Bool.false_eq_true,if_false];rw[hbA,Zy hbl];simp only[bS];rw[if_pos (by have:=ZfK (KK l) k;simp;omega)];unfold Yq.j2;rw[Zu _ (by omega),ZaB,hkk];simp only[List.length_cons]at m4 ⊢;rw[Z2d _ (by omega) (by omega)];simp only[arr,opn,hkk,ho,List.tail_cons,List.map_append,List.map_cons,List.map_nil,gF,Zdf hbl,Nat.add_sub_cancel]
   ·rw[if_neg VB]at hkk;rw[if_neg VB];unfold Yq.j2;rw[Zu _ (by omega),ZaB,hkk];simp only[arr,opn,hkk,List.append_nil]
 ·
  by_cases h28:l[k].Op=28
  ·rw[if_pos h28]at hkk;unfold good at hp;rw[hkk]at hp;simp only at hp;rw[if_pos h28];unfold TG.f;rw[if_pos (by omega)];rfl
  ·rw[if_neg h28]at hkk;rw[if_neg h28];by_cases VB:l[k].Op=29
   ·rw[if_pos VB]at hkk;rw[if_pos VB];have hA:=KN (hm _ (List.getElem_mem hk)) (.inr (.inr VB));unfold good at hp;rw[hkk]at hp;simp only at hp;unfold V8.f;cases ho:opn (KK l) k with
    |nil=>rw[if_pos (by simp)];rfl
    |cons b T=>
     rw[ho]at hp hat m4;simp only[List.head?_cons,Option.some.injEq]at hp;have hel:elt (arr (KK l) k) (IntKind.i64.wrap (((b::T).length:Int)-1))=some (b:Int):=by
      simp only[List.length_cons]at hat m4 ⊢;rw[Z2d _ (by omega) (by omega),Z5i];have:=congrArg (fun z=>z[T.length]?) hat;simp only[List.reverse_cons,List.map_append,List.map_cons,List.map_nil]at this;rw[List.getElem?_take_of_lt (by omega),List.getElem?_append_right (by simp)]at this;simpa using this
     rw[if_neg (by simp;omega),hel];simp only[bS];unfold V8.j1;rw[if_pos (by simp;omega)];rfl
   ·rw[if_neg VB]at hkk;unfold good at hp;rw[hkk]at hp;exact absurd trivial hp
end Zz
namespace Zz
def hasB(x:YO)(a:Int):Bool:=(decide (a>x.From))&&(decide (a≤x.To))
theorem Z8w{x:YO}{a:Int}:hasB x a=true↔x.From<a∧a≤x.To:=by
 unfold hasB;rw[Bool.and_eq_true,decide_eq_true_eq,decide_eq_true_eq]
theorem Zeu{x:YO}{a:Int}:hasB x a=false↔¬(x.From<a∧a≤x.To):=by
 rw[←Z8w,Bool.not_eq_true]
theorem Zbn{s:List YO}{a b c d:Int}(hl:s.length<4611686018427387904):YS.f s a b c d=some (s.any fun x=>hasB x b && !hasB x d):=by
 unfold YS.f Yc.f;rw[Ze (t :=.l1 ((0:Nat):Int)) rfl];obtain⟨r,hr,hc⟩:=Z02 (F:=Yc.F s a b c d) (n:=s.length) (b := -1) (a:=fun k=>(k:Int)) (fun k =>.l1 (k:Int)) (fun k=>if h:k<s.length then hasB s[k] b && !hasB s[k] d else false) (fun k hk=>by
  dsimp only[Yc.F];rw[if_pos (by omega),Zy hk];simp only[bS];have:Kl.f s[k] a b c d=some (hasB s[k] b && !hasB s[k] d):=by
   unfold Kl.f Kv.f;simp only[bS];show((if hasB s[k] b=true then some (!hasB s[k] d)else some false).bind fun Kj=>some Kj)=_;cases hasB s[k] b<;>rfl
  rw[this];simp only[bS,dif_pos hk,Zu k (by omega)];cases hasB s[k] b && !hasB s[k] d<;>rfl) (by dsimp only[Yc.F];rw[if_neg (by omega)])
 rw[hr];simp only[bS];congr 1;rw[Bool.eq_iff_iff];simp only[decide_eq_true_eq];rw[List.any_eq_true];rcases hc with ⟨k,hk,hp,rfl⟩|⟨hn,rfl⟩
 ·rw[dif_pos hk]at hp;exact⟨fun _=>⟨_,List.getElem_mem hk,hp⟩,fun _=>by omega⟩
 ·refine⟨fun h=>by omega,fun⟨x,hx,hp⟩=>?_⟩;obtain⟨k,hk,rfl⟩:=List.mem_iff_getElem.1 hx;have:=hn k hk;rw[dif_pos hk]at this;rw[this]at hp;cases hp
def Jk(l:List Z7)(R:Nat×Nat→Prop)(k:Nat):Prop:=∀x,l[k]?=some x→(x.Op=26∨x.Op=27)→(k:Int)<x.A∧x.A<l.length∧∀y,R y→(y.1:Int)<x.A→x.A≤y.2→y.1<k∧k≤y.2
def Jm(l:List Z7)(R:Nat×Nat→Prop):Prop:=∀k,k<l.length→Jk l R k
theorem ZfL{l:List Z7}{O:List (Nat×Nat)}{R:Nat×Nat→Prop}(hl:l.length≤200)(ho:O.length≤200)(hR:∀x,x∈O↔R x) :
    (Jm l R→WK.f l (O.map (gF l))=some true)∧(¬Jm l R→WK.f l (O.map (gF l))=some false):=by
 unfold WK.f;rw[Ze (t :=.l1 ((0:Nat):Int)) rfl];have val:∀k (hk:k<l.length),(l[k].Op=26∨l[k].Op=27)→(((if((decide (l[k].A≤(k:Int)))||(decide (l[k].A≥(l.length:Int))))=true then(some true)else((YS.f (O.map (gF l)) l[k].Op l[k].A l[k].B k).bind fun t49=>some t49))=some true∧¬Jk l R k)∨((if((decide (l[k].A≤(k:Int)))||(decide (l[k].A≥(l.length:Int))))=true then(some true)else((YS.f (O.map (gF l)) l[k].Op l[k].A l[k].B k).bind fun t49=>some t49))=some false∧Jk l R k)):=by
  intro k hk hop;by_cases hA:l[k].A≤(k:Int)∨l[k].A≥(l.length:Int)
  ·left;rw[if_pos (by simpa using hA)];refine⟨rfl,fun h=>?_⟩;have:=h l[k] (List.getElem?_eq_getElem hk) hop;omega
  ·rw[if_neg (by simpa using hA),Zbn (by simp;omega)];simp only[bS];cases hb:(O.map (gF l)).any fun x=>hasB x l[k].A && !hasB x (k:Int)with
   |true=>
    left;refine⟨rfl,fun h=>?_⟩;rw[List.any_eq_true]at hb;obtain⟨z,hz,hb⟩:=hb;rw[List.mem_map]at hz;obtain⟨y,hy,rfl⟩:=hz;have:=(h l[k] (List.getElem?_eq_getElem hk) hop).2.2 y ((hR y).1 hy);rw[Bool.and_eq_true,Bool.not_eq_true',Z8w,Zeu]at hb;dsimp only[gF]at hb;omega
   |false=>
    right;refine⟨rfl,fun x hx _=>?_⟩;rw[List.getElem?_eq_getElem hk]at hx;cases hx;refine⟨by omega,by omega,fun y hy h1 h2=>?_⟩;have:=List.any_eq_false.1 hb _ (List.mem_map_of_mem (f:=gF l) ((hR y).2 hy));rw[Bool.and_eq_true,Bool.not_eq_true',Z8w,Zeu]at this;dsimp only[gF]at this;omega
 have key:=Tx (F:=WK.F l (O.map (gF l))) (n:=l.length) (b:=false) (fun k =>.l1 (k:Int)) (Jk l R) (fun k hk _ hp=>Ze (by
  dsimp only[WK.F];rw[if_pos (by omega),Zy hk];simp only[bS];unfold WK.j1;rw[Zu k (by omega)];by_cases hop:l[k].Op=26∨l[k].Op=27
  ·rw[if_neg (by simp;omega)];rcases val k hk hop with ⟨-,h⟩|⟨h,-⟩
   ·exact absurd hp h
   ·rw[h];rfl
  ·rw[if_pos (by simp;omega)])) (fun k hk _ hp=>Zf (by
  dsimp only[WK.F];rw[if_pos (by omega),Zy hk];simp only[bS];by_cases hop:l[k].Op=26∨l[k].Op=27
  ·rw[if_neg (by simp;omega)];rcases val k hk hop with ⟨h,-⟩|⟨-,h⟩
   ·rw[h];rfl
   ·exact absurd h hp
  ·refine absurd (fun x hx h=>absurd h ?_) hp;rw[List.getElem?_eq_getElem hk]at hx;cases hx;exact hop))
 refine⟨fun h=>?_,fun h=>key.2 h⟩;refine(key.1 h).trans (Zf ?_);dsimp only[WK.F];rw[if_neg (by omega)]
def Z4H(l:List Z7):Prop:=∀x,l[l.length-1]?=some x→x.Op=31∨x.Op=32
def Known(l:List Z7):Prop:=1≤l.length∧l.length≤200∧∀x∈l,may x=true
def UK(l:List Z7):Prop:=Run (KK l) l.length∧Z4H l∧Jm l fun x=>Pr (KK l) l.length x.1 x.2
theorem Z2J{l:List Z7}(hlen:l.length<4611686018427387904)(hw:∀x∈l,Y5 x) :
    (¬Known l→Yq.f l=some ([],40))∧(Known l→UK l→Yq.f l=some ((RL (KK l) l.length).map (gF l),0))∧(Known l→¬UK l→Yq.f l=some ([],90)):=by
 unfold Yq.f;refine⟨fun hk=>Zf ?_,?_⟩
 ·dsimp only[Yq.F];by_cases hn:l.length=0∨l.length>200
  ·rw[if_pos (by rw[Bool.or_eq_true,decide_eq_true_eq,decide_eq_true_eq];omega)];rfl
  ·rw[if_neg (by rw[Bool.or_eq_true,decide_eq_true_eq,decide_eq_true_eq];omega),Z6Y hlen hw];have:(l.any fun x => !may x)=true:=by
    refine Classical.byContradiction fun hc=>hk ⟨by omega,by omega,fun x hx=>?_⟩;have:=List.any_eq_false.1 (Bool.eq_false_iff.2 hc) x hx;simpa using this
   rw[this];rfl
 suffices hs:Known l→(UK l→Zw (Yq.F l) .start=some ((RL (KK l) l.length).map (gF l),0))∧(¬UK l→Zw (Yq.F l) .start=some ([],90)) from ⟨fun a b=>(hs a).1 b,fun a b=>(hs a).2 b⟩
 rintro⟨n1,n2,hm⟩;have e0:Zw (Yq.F l) .start=Zw (Yq.F l) (st l 0):=Ze (by
  dsimp only[Yq.F];rw[if_neg (by rw[Bool.or_eq_true,decide_eq_true_eq,decide_eq_true_eq];omega),Z6Y hlen hw];have:(l.any fun x => !may x)=false:=by
   rw[List.any_eq_false];intro x hx;simp[hm x hx]
  rw[this];rfl)
 rw[e0];obtain⟨h1,h2⟩:=ZdF n2 hm;by_cases hg:∀k,k<l.length→good (KK l) k
 case neg=>exact⟨fun h=>absurd h.1.1 hg,fun _=>h2 hg⟩
 rw[h1 hg];have hlast:l.length-1<l.length:=by omega
 have wl:IntKind.i64.wrap ((l.length:Int)-1)=((l.length-1:Nat):Int):=Z2d _ (by omega) (by omega);have m4:=(Ja (KK l) l.length hg).2.2;have e1:Yq.F l (st l l.length)=((if((opn (KK l) l.length).length:Int)>0 then(some true)else some (!((decide (l[l.length-1].Op=31))||(decide (l[l.length-1].Op=32))))).bind fun Vv=>(if Vv=true then(some true)else((WK.f l ((OL (KK l) l.length).map (gF l))).bind fun t95=>some (!t95))).bind fun t96=>if t96=true then(Yq.j1 l)else(some (.inr ((Z0b ((OL (KK l) l.length).map (gF l)).toArray).toList,0)))):=by
  dsimp only[Yq.F,st];rw[if_neg (by omega),wl,Zy hlast,if_pos (show((OL (KK l) l.length).map (gF l)).length<4611686018427387904 by have:=ZfK (KK l) l.length;simp;omega)];simp only[bS,Z3v.f]
 have Z71:Z4H l↔(l[l.length-1].Op=31∨l[l.length-1].Op=32):=by
  unfold Z4H;constructor
  ·intro h;exact h _ (List.getElem?_eq_getElem hlast)
  ·intro h x hx;rw[List.getElem?_eq_getElem hlast]at hx;cases hx;exact h
 by_cases hS:opn (KK l) l.length=[]
 case neg=>
  refine⟨fun h=>absurd h.1.2 hS,fun _=>Zf ?_⟩;rw[e1,if_pos (by cases ho:opn (KK l) l.length with|nil=>exact absurd ho hS|cons=>simp)];rfl
 have hrun:Run (KK l) l.length:=⟨hg,hS⟩
 obtain⟨o1,o2⟩:=Z01 hrun;rw[hS]at e1;rw[if_neg (by simp)]at e1;simp only[bS]at e1;by_cases hL:Z4H l
 case neg=>
  refine⟨fun h=>absurd h.2.1 hL,fun _=>Zf ?_⟩;rw[e1,if_pos (by have:=mt Z71.2 hL;simp;omega)];rfl
 rw[if_neg (by have:=Z71.1 hL;simp;omega)]at e1;obtain⟨j1,j2⟩:=ZfL (R:=fun x=>Pr (KK l) l.length x.1 x.2) n2 (Nat.le_trans (ZfK _ _) n2) (Z9s o2);by_cases hJ:Jm l fun x=>Pr (KK l) l.length x.1 x.2
 ·refine⟨fun _=>Zf ?_,fun h=>absurd ⟨hrun,hL,hJ⟩ h⟩;rw[e1,j1 hJ];simp only[bS,Bool.not_true,Bool.false_eq_true,if_false];obtain⟨sp,ss⟩:=Zj2 ((OL (KK l) l.length).map (gF l)).toArray;rw[Zhj (key:=fun x:YO=>x.From) (g:=gF l) (fun _=>rfl) o1 o2 sp ss]
 ·refine⟨fun h=>absurd h.2.2 hJ,fun _=>Zf ?_⟩;rw[e1,j2 hJ];rfl
end Zz
namespace Zz
theorem ms2(x y:Int):([x,y].mergeSort fun x y=>decide (x≤y))=if x≤y then [x,y]else [y,x]:=by
 by_cases h:x≤y
 ·rw[if_pos h];exact List.mergeSort_of_pairwise (by simp[h])
 ·rw[if_neg h];have hp:[x,y].mergeSort (fun x y=>decide (x≤y))=[y,x].mergeSort (fun x y=>decide (x≤y)):=by
   have p1:=(List.mergeSort_perm [x,y] fun x y=>decide (x≤y)).trans ((List.Perm.swap y x []).trans (List.mergeSort_perm [y,x] fun x y=>decide (x≤y)).symm);refine List.Perm.eq_of_pairwise (le:=fun a b=>a≤b) (fun a b _ _ h1 h2=>Int.le_antisymm h1 h2) ?_ ?_ p1
   ·exact(List.pairwise_mergeSort (le:=fun x y=>decide (x≤y)) (fun a b c h1 h2=>by simp at *;omega) (fun a b=>by simp;omega) _).imp fun h=>by simpa using h
   ·exact(List.pairwise_mergeSort (le:=fun x y=>decide (x≤y)) (fun a b c h1 h2=>by simp at *;omega) (fun a b=>by simp;omega) _).imp fun h=>by simpa using h
  rw[hp];exact List.mergeSort_of_pairwise (by simp;omega)
theorem ct2(x y:Int):Lib.compact [x,y]=if x=y then [x]else [x,y]:=by
 by_cases h:x=y
 ·subst h;simp[Lib.compact,Lib.compactUpTo,Lib.keeps,List.range_succ]
 ·simp[Lib.compact,Lib.compactUpTo,Lib.keeps,List.range_succ,h,Ne.symm h]
theorem ct1(x:Int):Lib.compact [x]=[x]:=by simp[Lib.compact,Lib.compactUpTo,Lib.keeps,List.range_succ]
theorem ct0:Lib.compact ([]:List Int)=[]:=by simp[Lib.compact,Lib.compactUpTo]
def ways(l:List Z7)(a:Nat):List Int:=match l[a]? with
 |none=>[]
 |some x=>if x.Op=31∨x.Op=32 then []else if x.Op=26 then [x.A]else if x.Op=27 then(if x.A=((a+1:Nat):Int)then [x.A]else [((a+1:Nat):Int),x.A])else if x.Op=29 then [x.A+1,((a+1:Nat):Int)]else [((a+1:Nat):Int)]
theorem Z5w(l:List Z7)(a:Int)(s:List Int)(h:s.length<4611686018427387904):Vg.j2 l a s=some (Lib.compact (s.mergeSort fun x y=>decide (x≤y)),0):=by
 unfold Vg.j2;rw[if_pos h,if_pos (by rw[List.length_mergeSort];exact h)]
theorem Zj5(n:Fin 33):Z33.f (n.1:Int)=some (decide (n.1=26∨n.1=27∨n.1=29)):=by
 revert n;decide +kernel
theorem Z9t{i:Z7}(hw:Y5 i)(h:may i=true):0≤i.Op∧i.Op<33:=by
 obtain⟨h0,h1⟩:=Z7E hw;refine⟨h0,?_⟩;rcases Int.lt_or_le i.Op 33 with z|z
 ·exact z
 ·unfold may Vx.f TQ.f at h;rw[ZW (by omega) (by omega)]at h;simp only[bS]at h;rw[if_pos (by simp;omega)]at h;simp at h;omega
theorem Zhk{l:List Z7}(hlen:l.length<4611686018427387904)(hw:∀x∈l,Y5 x) :
    (∀a,¬Known l→Vg.f l a=some ([],40))∧(∀a,Known l→¬UK l→Vg.f l a=some ([],90))∧(∀a:Int,Known l→UK l→(a<0∨a≥l.length)→Vg.f l a=some ([],2))∧(∀a:Nat,Known l→UK l→a<l.length→Vg.f l a=some (ways l a,0)):=by
 obtain⟨a1,a2,a3⟩:=Z2J hlen hw;unfold Vg.f UN.f;refine⟨fun a h=>?_,fun a h hf=>?_,fun a h hf ha=>?_,fun a h hf ha=>?_⟩
 ·rw[a1 h];rfl
 ·rw[a3 h hf];rfl
 ·rw[a2 h hf];simp only[bS];rw[if_neg (by simp),if_pos (by rw[Bool.or_eq_true,decide_eq_true_eq,decide_eq_true_eq];exact ha)]
 ·rw[a2 h hf];simp only[bS];rw[if_neg (by simp),if_neg (by rw[Bool.or_eq_true,decide_eq_true_eq,decide_eq_true_eq];omega),Zy ha];simp only[bS];have hm:=h.2.2 _ (List.getElem_mem ha);have hop:=Z9t (hw _ (List.getElem_mem ha)) hm;have hJ:=hf.2.2 a ha;have hn:=h.2.1;unfold ways;rw[List.getElem?_eq_getElem ha];dsimp only;generalize hx:l[a]=x at hm hop
  have hgoes:Z49.f x.Op=some (decide (x.Op≠26∧x.Op≠31∧x.Op≠32)):=by
   unfold Z49.f TQ.f;rw[ZW (by omega) (by omega)];simp only[bS];congr 1;rw[Bool.eq_iff_iff];simp only[Bool.and_eq_true,decide_eq_true_eq];omega
  have Zor:Z33.f x.Op=some (decide (x.Op=26∨x.Op=27∨x.Op=29)):=by
   obtain⟨n,hn⟩:=Int.eq_ofNat_of_zero_le hop.1;have:=Zj5 ⟨n,by omega⟩;dsimp only at this;rw[hn];have e:(n:Int)=(Int.ofNat n):=rfl;rw[this];congr 1;rw[Bool.eq_iff_iff,decide_eq_true_eq,decide_eq_true_eq];omega
  have wa:IntKind.i64.wrap ((a:Int)+1)=((a+1:Nat):Int):=Zu a (by omega);rw[hgoes];simp only[bS];rw[wa,if_pos (show(([]:List Int).length + [((a+1:Nat):Int)].length)*8≤140737488355328 by simp)];unfold Vg.j1;rw[Zor];simp only[bS,List.nil_append];by_cases h31:x.Op=31∨x.Op=32
  ·rw[if_neg (by rw[decide_eq_true_eq];omega),if_neg (by omega),if_neg (by rw[decide_eq_true_eq];omega),if_pos h31,Z5w _ _ _ (by simp)];simp[ct0]
  ·rw[if_neg h31];by_cases h26:x.Op=26
   ·have hp:=KN hm (.inl h26);rw[if_neg (by rw[decide_eq_true_eq];omega),if_neg (by omega),if_pos (by rw[decide_eq_true_eq];omega),if_pos h26,if_pos (by simp),Z5w _ _ _ (by simp)];simp[ct1]
   ·rw[if_pos (by rw[decide_eq_true_eq];omega),if_neg h26];by_cases VB:x.Op=29
    ·have hp:=KN hm (.inr (.inr VB));have hA:x.A<a:=by
      have hk:KK l a=.again x.A.toNat:=by rw[Z7F ha,hx,if_neg (by omega),if_pos VB]
      obtain⟨T,hT⟩:=Z3y hf.1.1 ha hk;have:=((Ja (KK l) a fun j hj=>hf.1.1 j (by omega)).1 x.A.toNat).1 (by rw[hT];simp);omega
     have wA:IntKind.i64.wrap (x.A+1)=x.A+1:=ZW (by omega) (by omega);rw[if_pos VB,if_pos (by simp),if_neg (by omega),if_pos VB,wA,Z5w _ _ _ (by simp)];simp only[List.singleton_append];rw[ms2,if_neg (by omega),ct2,if_neg (by omega)]
    ·rw[if_neg VB,if_neg VB];by_cases h27:x.Op=27
     ·have hj:=(hJ x (by rw[List.getElem?_eq_getElem ha,hx]) (.inr h27)).1;rw[if_pos (by rw[decide_eq_true_eq];omega),if_pos h27,if_pos (by simp),Z5w _ _ _ (by simp)];simp only[List.singleton_append];rw[ms2,if_pos (by omega),ct2];by_cases e:x.A=((a+1:Nat):Int)
      ·rw[if_pos e.symm,if_pos e,e]
      ·rw[if_neg (Ne.symm e),if_neg e]
     ·rw[if_neg (by rw[decide_eq_true_eq];omega),if_neg h27,Z5w _ _ _ (by simp)];simp[ct1]
end Zz
namespace Zz
instance (x:Z7):Decidable (Y5 x):=by unfold Y5;infer_instance
end Zz
namespace Zz
def WF(l:List Z7)(a:Nat)(x:Z7)(W:List Int):Prop:=
 (W.length=0↔(x.Op=31∨x.Op=32))∧W.length≤2∧∀i (hi:i<W.length),0≤W[i]∧W[i]<l.length∧(W[i]≤a→x.Op=29∧W[i]=x.A+1)∧(∀h:0<i,W[i-1]<W[i]) ∧
     ∀y:Nat×Nat,Pr (KK l) l.length y.1 y.2→(y.1:Int)<W[i]→W[i]≤y.2→y.1≤a∧a≤y.2
theorem Z42{l:List Z7}(hk:Known l)(hf:UK l){a:Nat}(ha:a<l.length):WF l a l[a] (ways l a):=by
 obtain⟨o1,o2⟩:=Z01 hf.1;obtain⟨-,-,hN,-⟩:=(Zet (R:=RL (KK l) l.length) fun h=>⟨fun x=>Z1b x,Zdc h⟩).1 hf.1;have hJ:=hf.2.2 a ha;have hm:=hk.2.2 _ (List.getElem_mem ha);have hlast:¬(l[a].Op=31∨l[a].Op=32)→a+1<l.length:=by
  intro h;rcases Nat.lt_or_ge (a+1) l.length with z|z
  ·exact z
  ·have e:l.length-1=a:=by omega
   have:=hf.2.1 l[a] (by rw[e,List.getElem?_eq_getElem ha]);exact absurd this h
 have hag:l[a].Op=29→0≤l[a].A∧l[a].A<a∧KK l a=.again l[a].A.toNat:=by
  intro VB;have hp:=KN hm (.inr (.inr VB));have hkk:KK l a=.again l[a].A.toNat:=by rw[Z7F ha,if_neg (by omega),if_pos VB]
  obtain⟨T,hT⟩:=Z3y hf.1.1 ha hkk;have:=((Ja (KK l) a fun j hj=>hf.1.1 j (by omega)).1 l[a].A.toNat).1 (by rw[hT];simp);exact⟨hp.1,by omega,hkk⟩
 have hnext:∀x:Nat×Nat,Pr (KK l) l.length x.1 x.2→(x.1:Int)<((a+1:Nat):Int)→((a+1:Nat):Int)≤x.2→x.1≤a∧a≤x.2:=fun x _ h1 h2=>by omega
 have Zos:(l[a].Op=26∨l[a].Op=27)→(a:Int)<l[a].A∧l[a].A<l.length∧∀x:Nat×Nat,Pr (KK l) l.length x.1 x.2→(x.1:Int)<l[a].A→l[a].A≤x.2→x.1≤a∧a≤x.2:=by
  intro h;have:=hJ _ (List.getElem?_eq_getElem ha) h;exact⟨this.1,this.2.1,fun x hx h1 h2=>by have:=this.2.2 x hx h1 h2;omega⟩
 have hback:l[a].Op=29→∀x:Nat×Nat,Pr (KK l) l.length x.1 x.2→(x.1:Int)<l[a].A+1→l[a].A+1≤x.2→x.1≤a∧a≤x.2:=by
  intro VB x hx h1 h2;obtain⟨q1,q2,q3⟩:=hag VB;obtain⟨b1,b2⟩:=o2 a _ ha q3;have pa:Pr (KK l) l.length l[a].A.toNat a:=⟨b1,ha,b2,q3⟩
  refine⟨by omega,?_⟩;by_cases e:x.1=l[a].A.toNat
  ·obtain⟨t0,-,-,hu⟩:=o1 _ pa.1 b2;have e1:=hu _ pa;have e2:=hu x.2 (by rw[←e];exact hx);omega
  ·exact hN _ _ _ _ hx pa (by omega) (by omega)
 have Zot:ways l a=if l[a].Op=31∨l[a].Op=32 then []else if l[a].Op=26 then [l[a].A]else if l[a].Op=27 then(if l[a].A=((a+1:Nat):Int)then [l[a].A]else [((a+1:Nat):Int),l[a].A])else if l[a].Op=29 then [l[a].A+1,((a+1:Nat):Int)]else [((a+1:Nat):Int)]:=by
  unfold ways;rw[List.getElem?_eq_getElem ha]
 rw[Zot];clear Zot;generalize l[a]=x at *
 by_cases h31:x.Op=31∨x.Op=32
 ·rw[if_pos h31];exact⟨by simpa using h31,by simp,fun i hi=>by simp at hi⟩
 ·have hl:=hlast h31;rw[if_neg h31];have one:∀w:Int,(0≤w∧w<l.length∧(w≤a→x.Op=29∧w=x.A+1)∧∀y:Nat×Nat,Pr (KK l) l.length y.1 y.2→(y.1:Int)<w→w≤y.2→y.1≤a∧a≤y.2)→WF l a x [w]:=by
   intro w hw;refine⟨by simpa using h31,by simp,fun i hi=>?_⟩;obtain rfl:i=0:=by simpa using hi
   exact⟨hw.1,hw.2.1,hw.2.2.1,fun h=>absurd h (by omega),hw.2.2.2⟩
  have two:∀v w:Int,v<w→(0≤v∧v<l.length∧(v≤a→x.Op=29∧v=x.A+1)∧∀y:Nat×Nat,Pr (KK l) l.length y.1 y.2→(y.1:Int)<v→v≤y.2→y.1≤a∧a≤y.2)→(0≤w∧w<l.length∧(w≤a→x.Op=29∧w=x.A+1)∧∀y:Nat×Nat,Pr (KK l) l.length y.1 y.2→(y.1:Int)<w→w≤y.2→y.1≤a∧a≤y.2)→WF l a x [v,w]:=by
   intro v w hlt hv hw;refine⟨by simpa using h31,by simp,fun i hi=>?_⟩;rcases i with _ | _|i
   ·exact⟨hv.1,hv.2.1,hv.2.2.1,fun h=>absurd h (by omega),hv.2.2.2⟩
   ·exact⟨hw.1,hw.2.1,hw.2.2.1,fun _=>hlt,hw.2.2.2⟩
   ·simp at hi;omega
  by_cases h26:x.Op=26
  ·rw[if_pos h26];obtain⟨j1,j2,j3⟩:=Zos (.inl h26);exact one _ ⟨by omega,j2,fun h=>by omega,j3⟩
  ·rw[if_neg h26];by_cases h27:x.Op=27
   ·rw[if_pos h27];obtain⟨j1,j2,j3⟩:=Zos (.inr h27);by_cases e:x.A=((a+1:Nat):Int)
    ·rw[if_pos e];exact one _ ⟨by omega,j2,fun h=>by omega,j3⟩
    ·rw[if_neg e];exact two _ _ (by omega) ⟨by omega,by omega,fun h=>by omega,hnext⟩ ⟨by omega,j2,fun h=>by omega,j3⟩
   ·rw[if_neg h27];by_cases VB:x.Op=29
    ·rw[if_pos VB];obtain⟨q1,q2,q3⟩:=hag VB;exact two _ _ (by omega) ⟨by omega,by omega,fun _=>⟨VB,rfl⟩,hback VB⟩ ⟨by omega,by omega,fun h=>by omega,hnext⟩
    ·rw[if_neg VB];exact one _ ⟨by omega,by omega,fun h=>by omega,hnext⟩
end Zz
namespace Y8
open Zz
theorem Z7G{x y:List Int}(h:x.length+y.length≤140737488355328):ZL.f [x,y]=some (x++y):=by
 unfold ZL.f;have w1:IntKind.i64.wrap ((0:Int)+(x.length:Int))=x.length:=by rw[ZW (by omega) (by omega)];omega
 have w2:IntKind.i64.wrap ((x.length:Int)+(y.length:Int))=((x.length+y.length:Nat):Int):=by rw[ZW (by omega) (by omega)];omega
 have i1:IntKind.i64.wrap ((0:Int)+1)=1:=by decide
 have i2:IntKind.i64.wrap ((1:Int)+1)=2:=by decide
 rw[Ze (t :=.l1 0 0) rfl,Ze (t :=.l1 (x.length:Int) 1),Ze (t :=.l1 ((x.length+y.length:Nat):Int) 2),Ze (t :=.l2 [] 0),Ze (t :=.l2 x 1),Ze (t :=.l2 (x++y) 2),Zf]
 ·dsimp only[ZL.F];rw[if_neg (by simp)]
 ·dsimp only[ZL.F];rw[if_pos (by simp),show elt [x,y] 1=some y from rfl,bS,if_pos (by omega),i2]
 ·dsimp only[ZL.F];rw[if_pos (by simp),show elt [x,y] 0=some x from rfl,bS,if_pos (by simp;omega),i1];rfl
 ·dsimp only[ZL.F];rw[if_neg (by simp),if_pos (by omega)]
 ·dsimp only[ZL.F];rw[if_pos (by simp),show elt [x,y] 1=some y from rfl,bS,w2,if_neg (by omega)];unfold ZL.j1;rw[w2,i2]
 ·dsimp only[ZL.F];rw[if_pos (by simp),show elt [x,y] 0=some x from rfl,bS,w1,if_neg (by omega)];unfold ZL.j1;rw[w1,i1]
theorem Zhl{x:List Int}(h:x.length≤140737488355328):V3.f x=some x:=by
 unfold V3.f;rw[Z8L (by rintro rfl;rfl),if_pos (by simp;omega)];rfl
theorem Zhm{x:List Zi}(h:x.length≤200):WV.f x=some x:=by
 unfold WV.f;rw[Z8L (by rintro rfl;rfl),if_pos (by simp;omega)];rfl
theorem Zlc(a:Int):ZU.f [a] 2=some [a,a]:=by
 unfold ZU.f;have m:Un.f (IntKind.u64.wrap (([a]:List Int).length:Int)) (IntKind.u64.wrap 2)=some (0,2):=by show Un.f (IntKind.u64.wrap 1) (IntKind.u64.wrap 2)=some (0,2);decide +kernel
 have w2:IntKind.i64.wrap 2=2:=by decide
 rw[Ze (t :=.l1 [a,0] 1),Ze (t :=.l1 [a,a] 2),Zf]
 ·dsimp only[ZU.F];rw[if_neg (by simp)]
 ·dsimp only[ZU.F];rw[if_pos (by simp),if_pos (by simp),if_pos (by simp)];rfl
 ·dsimp only[ZU.F];rw[if_neg (by omega)];unfold ZU.j1;rw[m,bS,if_neg (by decide)];unfold ZU.j2;dsimp only;rw[w2,if_pos (by omega)];rfl
theorem Zkf{x y:List Int}(h:x.length<4611686018427387904):ZG.f x y=some (decide (x=y)):=by
 unfold ZG.f;by_cases hl:x.length=y.length
 ·rw[Ze (t :=.l1 ((0:Nat):Int)) (by dsimp only[ZG.F];rw[if_neg (by omega)];rfl)];obtain⟨r,hr,hc⟩:=Z02 (F:=ZG.F x y) (n:=x.length) (b:=true) (a:=fun _=>false) (fun k =>.l1 (k:Int)) (fun k=>decide (x[k]?≠y[k]?)) (fun k hk=>by
   have hk':k<y.length:=by omega
   dsimp only[ZG.F];rw[if_pos (by omega),Zy hk,Zy hk',List.getElem?_eq_getElem hk,List.getElem?_eq_getElem hk'];simp only[bS,Option.some.injEq,ne_eq,Zu k (by omega),decide_eq_true_eq];by_cases e:x[k]=y[k]
   ·rw[if_neg (by simpa using e),if_neg (by simpa using e)]
   ·rw[if_pos (by simpa using e),if_pos (by simpa using e)]) (by dsimp only[ZG.F];rw[if_neg (by omega)])
  rw[hr];congr 1;rcases hc with ⟨k,hk,hp,rfl⟩|⟨hn,rfl⟩
  ·rw[eq_comm,decide_eq_false_iff_not];rintro rfl;simp at hp
  ·rw[eq_comm,decide_eq_true_eq];refine List.ext_getElem? fun k=>?_;rcases Nat.lt_or_ge k x.length with z|z
   ·have:=hn k z;simpa using this
   ·rw[List.getElem?_eq_none z,List.getElem?_eq_none (by omega)]
 ·rw[Zf (r:=false) (by dsimp only[ZG.F];rw[if_pos (by omega)])];congr 1;rw[eq_comm,decide_eq_false_iff_not];rintro rfl;exact hl rfl
structure TE where
 G:List Zp
 P:List Zp
 M:List Zb
 res:Int
 K:List Int
def there(E:TE)(i:Z7):Bool:=if i.Op=1 then decide (i.A<E.P.length)else if i.Op=2∨i.Op=3 then decide (i.A<E.K.length)else if i.Op=4∨i.Op=5 then decide (i.A<E.G.length)else if i.Op=30 then decide (i.A<E.M.length)else true
theorem Zj6(E:TE)(mig:Int)(ar lo:List Int)(re:Bool)(fu sta he:Int)(co:List Z7)(i:Z7):Yx.f E.G E.P E.M mig ar lo E.res re fu sta he co E.K i=some (there E i):=by
 unfold Yx.f Yx.j2 Yx.j3 Yx.j1 there;by_cases h1:i.Op=1
 ·simp[h1]
 ·by_cases h2:i.Op=2
  ·simp[h2]
  ·by_cases h3:i.Op=3
   ·simp[h3]
   ·by_cases h4:i.Op=4
    ·simp[h4]
    ·by_cases h5:i.Op=5
     ·simp[h5]
     ·by_cases h6:i.Op=30
      ·simp[h6]
      ·simp[h1,h2,h3,h4,h5,h6]
theorem Z5x{E:TE}{mig:Int}{ar lo:List Int}{re:Bool}{fu sta he:Int}{co l:List Z7}(hl:l.length<4611686018427387904):YT.f l E.G E.P E.M mig ar lo E.res re fu sta he co E.K=some (l.any fun x => !there E x):=by
 unfold YT.f Yd.f;rw[Ze (t :=.l1 ((0:Nat):Int)) rfl];obtain⟨r,hr,hc⟩:=Z02 (F:=Yd.F l E.G E.P E.M mig ar lo E.res re fu sta he co E.K) (n:=l.length) (b := -1) (a:=fun k=>(k:Int)) (fun k =>.l1 (k:Int)) (fun k=>if h:k<l.length then !there E l[k]else false) (fun k hk=>by
  dsimp only[Yd.F];rw[if_pos (by omega),Zy hk];simp only[bS];unfold Ji.f;rw[Zj6];simp only[bS,dif_pos hk,Zu k (by omega)];cases there E l[k]<;>rfl) (by dsimp only[Yd.F];rw[if_neg (by omega)])
 rw[hr];simp only[bS];congr 1;rw[Bool.eq_iff_iff];simp only[decide_eq_true_eq,List.any_eq_true];rcases hc with ⟨k,hk,hp,rfl⟩|⟨hn,rfl⟩
 ·rw[dif_pos hk]at hp;exact⟨fun _=>⟨_,List.getElem_mem hk,hp⟩,fun _=>by omega⟩
 ·refine⟨fun h=>by omega,fun⟨x,hx,hp⟩=>?_⟩;obtain⟨k,hk,rfl⟩:=List.mem_iff_getElem.1 hx;have:=hn k hk;rw[dif_pos hk,hp]at this;cases this
theorem Z03{i:Z7}(hw:Y5 i)(h:may i=true)(ho:i.Op=1∨i.Op=2∨i.Op=3∨i.Op=4∨i.Op=5∨i.Op=30):0≤i.A:=by
 unfold may at h;have e:(Vx.f i.Op).map (·.1)=some 0:=by rcases ho with e|e|e|e|e|e<;>rw[e]<;>decide +kernel
 cases hb:Vx.f i.Op with
 |none=>rw[hb]at e;cases e
 |some b=>
  rw[hb]at e h;simp at e h;omega
def At{α:Type}(xs:List α)(d:α)(a:Int):α:=xs[a.toNat]?.getD d
theorem JM{α:Type}{xs:List α}{a:Int}(d:α)(h0:0≤a)(h1:a<xs.length):elt xs a=some (At xs d a):=by
 have:a.toNat<xs.length:=by omega
 rw[Uu h0 this];simp[At,this]
def named(E:TE)(i:Z7):Int:=if i.Op=1 then(At E.P Zp.zero i.A).Kind else if i.Op=4∨i.Op=5 then(At E.G Zp.zero i.A).Kind else At E.K 0 i.A
theorem Zdg{E:TE}{mig:Int}{ar lo:List Int}{re:Bool}{fu sta he:Int}{co:List Z7}{rows:List Zi}{i:Z7}(hw:Y5 i)(hm:may i=true)(ht:there E i=true)(ho:i.Op=1∨i.Op=2∨i.Op=3∨i.Op=4∨i.Op=5) :
    Wu.f E.G E.P E.M mig ar lo E.res re fu sta he co E.K rows i=some (named E i,rows):=by
 have h0:=Z03 hw hm (by omega);unfold Wu.f Wu.j1 named;unfold there at ht;rcases ho with e|e|e|e|e
 ·simp only[e,if_true,decide_eq_true_eq]at ht ⊢;rw[JM Zp.zero h0 ht];rfl
 ·simp[e]at ht ⊢;rw[JM 0 h0 ht];rfl
 ·simp[e]at ht ⊢;rw[JM 0 h0 ht];rfl
 ·simp[e]at ht ⊢;rw[JM Zp.zero h0 ht];rfl
 ·simp[e]at ht ⊢;rw[JM Zp.zero h0 ht];rfl
end Y8
namespace Y8
open Zz
def Zou(n:Nat)(o:Option (WY×Bool)):Bool:=match o with
 |none=>false
 |some s=>if s.2=true then decide (s.1.Takes.length≤3∧s.1.Gives.length≤2)&&decide (n≠31)else decide (s.1.Takes=[]∧s.1.Gives=[])&&decide (n=1∨n=2∨n=3∨n=4∨n=5∨n=7∨n=8∨n=30∨n=31)
theorem Zov(n:Fin 33):Zou n.1 (Wd.f (n.1:Int))=true:=by revert n;decide +kernel
theorem Z7H{x:Int}(h0:0≤x)(h1:x<33):∃s:WY×Bool,Wd.f x=some s∧((s.2=true∧s.1.Takes.length≤3∧s.1.Gives.length≤2∧x≠31)∨(s=(⟨[],[]⟩,false)∧(x=1∨x=2∨x=3∨x=4∨x=5∨x=7∨x=8∨x=30∨x=31))):=by
 obtain⟨n,rfl⟩:=Int.eq_ofNat_of_zero_le h0;have:=Zov ⟨n,by omega⟩;dsimp only at this;cases ho:Wd.f (n:Int)with
 |none=>rw[ho]at this;cases this
 |some s=>
  rw[ho]at this;refine⟨s,rfl,?_⟩;unfold Zou at this;dsimp only at this;by_cases hs:s.2=true
  ·rw[if_pos hs,Bool.and_eq_true,decide_eq_true_eq,decide_eq_true_eq]at this;exact .inl ⟨hs,this.1.1,this.1.2,by omega⟩
  ·rw[if_neg hs,Bool.and_eq_true,decide_eq_true_eq,decide_eq_true_eq]at this;obtain⟨⟨t,g⟩,b⟩:=s;obtain⟨⟨rfl,rfl⟩,h⟩:=this;simp only[Bool.not_eq_true]at hs;subst hs;exact .inr ⟨rfl,by omega⟩
def two(row:List Int):List Int:=row.drop (row.length-2)
def Um(E:TE)(i:Z7)(row:List Int):List Int×List Int:=match Wd.f i.Op with
 |none=>([],[])
 |some s=>if s.2=true then(s.1.Takes,s.1.Gives)
  else if i.Op=1∨i.Op=2∨i.Op=4 then([],[named E i])
  else if i.Op=3∨i.Op=5 then([named E i],[])
  else if i.Op=30 then((At E.M Zb.zero i.A).Args,[(At E.M Zb.zero i.A).Result])
  else if i.Op=31 then([E.res],[])
  else if i.Op=8 then([0,0],(two row).reverse)
  else([0],if row=[]then []else [row.getLastD 0,row.getLastD 0])
theorem ZaC(row:List Int):(two row).length≤2:=by unfold two;simp;omega
theorem Zj7{row:List Int}(h:row≠[]):(two row).drop ((two row).length-1)=[row.getLastD 0]:=by
 have hp:0<row.length:=List.length_pos_iff.2 h;have e:row=row.dropLast ++ [row.getLast h]:=(List.dropLast_concat_getLast h).symm;have hl:row.getLastD 0=row.getLast h:=by rw[List.getLastD_eq_getLast?,List.getLast?_eq_some_getLast h];rfl
 unfold two;rw[List.drop_drop,List.length_drop,hl];have:row.length-2+(row.length-(row.length-2)-1)=row.dropLast.length:=by rw[List.length_dropLast];omega
 rw[this]
 conv=>lhs;rw[e]
 rw[List.drop_left' (by simp)]
theorem Zj8{E:TE}{mig:Int}{ar lo:List Int}{re:Bool}{fu sta he:Int}{co:List Z7}{rows:List Zi}{i:Z7}{row:List Int}(hw:Y5 i)(hm:may i=true)(ht:there E i=true)(hrow:row.length≤100000) :
    ZR.f E.G E.P E.M mig ar lo E.res re fu sta he co E.K rows i row=some (⟨(Um E i row).1,(Um E i row).2⟩,rows):=by
 obtain⟨o0,o1⟩:=Z9t hw hm;obtain⟨s,hs,h⟩:=Z7H o0 o1;unfold ZR.f Um;rw[hs];simp only[bS];rcases h with ⟨h2,-,-,-⟩|⟨rfl,ho⟩
 ·rw[if_pos h2,if_pos h2]
 ·simp only[Bool.false_eq_true,if_false];have w:IntKind.i64.wrap ((row.length:Int)-2)=(row.length:Int)-2:=ZW (by omega) (by omega);have e:(if(IntKind.i64.wrap ((row.length:Int)-2))>0 then IntKind.i64.wrap ((row.length:Int)-2)else 0:Int)=((row.length-2:Nat):Int):=by rw[w];split<;>omega
  rw[e,if_pos (by omega)];have et:((row.length-2:Nat):Int).toNat=row.length-2:=by omega
  rw[et,Zhl (by simp;omega)];simp only[bS];change (if i.Op=1 then ZR.j3 _ _ _ _ _ _ _ _ _ _ _ _ _ _ _ _ _ (two row) _ else _)=_;have hj:∀b:Bool,b=decide (i.Op=1∨i.Op=2∨i.Op=4)→ZR.j3 E.G E.P E.M mig ar lo E.res re fu sta he co E.K rows i row (⟨[],[]⟩,false) (two row) b=some (⟨(if i.Op=1∨i.Op=2∨i.Op=4 then([],[named E i])
   else if i.Op=3∨i.Op=5 then([named E i],[])
   else if i.Op=30 then((At E.M Zb.zero i.A).Args,[(At E.M Zb.zero i.A).Result])
   else if i.Op=31 then([E.res],[])
   else if i.Op=8 then([0,0],(two row).reverse)
   else([0],if row=[]then []else [row.getLastD 0,row.getLastD 0]):List Int×List Int).1,(if i.Op=1∨i.Op=2∨i.Op=4 then([],[named E i])
   else if i.Op=3∨i.Op=5 then([named E i],[])
   else if i.Op=30 then((At E.M Zb.zero i.A).Args,[(At E.M Zb.zero i.A).Result])
   else if i.Op=31 then([E.res],[])
   else if i.Op=8 then([0,0],(two row).reverse)
   else([0],if row=[]then []else [row.getLastD 0,row.getLastD 0]):List Int×List Int).2⟩,rows):=by
   rintro b rfl;unfold ZR.j3;by_cases ZfM:i.Op=1∨i.Op=2∨i.Op=4
   ·rw[if_pos (by simpa using ZfM),Zdg hw hm ht (by omega),if_pos ZfM];rfl
   ·rw[if_neg (by simpa using ZfM),if_neg ZfM];have hj4:∀b:Bool,b=decide (i.Op=3∨i.Op=5)→ZR.j4 E.G E.P E.M mig ar lo E.res re fu sta he co E.K rows i row (⟨[],[]⟩,false) (two row) b=some (⟨(if i.Op=3∨i.Op=5 then([named E i],[])
     else if i.Op=30 then((At E.M Zb.zero i.A).Args,[(At E.M Zb.zero i.A).Result])
     else if i.Op=31 then([E.res],[])
     else if i.Op=8 then([0,0],(two row).reverse)
     else([0],if row=[]then []else [row.getLastD 0,row.getLastD 0]):List Int×List Int).1,(if i.Op=3∨i.Op=5 then([named E i],[])
     else if i.Op=30 then((At E.M Zb.zero i.A).Args,[(At E.M Zb.zero i.A).Result])
     else if i.Op=31 then([E.res],[])
     else if i.Op=8 then([0,0],(two row).reverse)
     else([0],if row=[]then []else [row.getLastD 0,row.getLastD 0]):List Int×List Int).2⟩,rows):=by
     rintro b rfl;unfold ZR.j4;by_cases h35:i.Op=3∨i.Op=5
     ·rw[if_pos (by simpa using h35),Zdg hw hm ht (by omega),if_pos h35];rfl
     ·rw[if_neg (by simpa using h35),if_neg h35];by_cases JN:i.Op=30
      ·have a0:=Z03 hw hm (by omega);have a1:i.A<E.M.length:=by simpa[there,JN]using ht
       rw[if_pos JN,if_pos JN,JM Zb.zero a0 a1];rfl
      ·rw[if_neg JN,if_neg JN];by_cases h31:i.Op=31
       ·rw[if_pos h31,if_pos h31];rfl
       ·rw[if_neg h31,if_neg h31];by_cases h8:i.Op=8
        ·have:=ZaC row;rw[if_pos h8,if_pos h8,if_pos (by omega),if_pos (by simp)];rfl
        ·rw[if_neg h8,if_neg h8];by_cases h7:i.Op=7
         ·rw[if_pos h7];by_cases hr:row=[]
          ·subst hr;rfl
          ·have hp:0<row.length:=List.length_pos_iff.2 hr;have t1:=ZaC row;have t2:0<(two row).length:=by unfold two;simp;omega
           have w1:IntKind.i64.wrap (((two row).length:Int)-1)=(((two row).length-1:Nat):Int):=by rw[ZW (by omega) (by omega)];omega
           rw[if_pos (by omega),w1,if_pos (by omega),if_neg hr];have et:(((two row).length-1:Nat):Int).toNat=(two row).length-1:=by omega
           rw[et,Zj7 hr,Zlc];rfl
         ·omega
    by_cases h3:i.Op=3
    ·rw[if_pos h3];exact hj4 _ (by simp[h3])
    ·rw[if_neg h3];exact hj4 _ (by simp[h3])
  by_cases h1:i.Op=1
  ·rw[if_pos h1];exact hj _ (by simp[h1])
  ·rw[if_neg h1];by_cases h2:i.Op=2
   ·rw[if_pos h2];exact hj _ (by simp[h2])
   ·rw[if_neg h2];exact hj _ (by simp[h1,h2])
theorem Z72{E:TE}{i:Z7}{row:List Int}(hw:Y5 i)(hm:may i=true):(Um E i row).2.length≤2:=by
 obtain⟨o0,o1⟩:=Z9t hw hm;obtain⟨s,hs,h⟩:=Z7H o0 o1;have:=ZaC row;unfold Um;rw[hs];dsimp only;rcases h with ⟨h2,-,h3,-⟩|⟨rfl,ho⟩
 ·rw[if_pos h2];exact h3
 ·rw[if_neg (by simp)];split
  ·simp
  ·split
   ·simp
   ·split
    ·simp
    ·split
     ·simp
     ·split
      ·simpa using this
      ·dsimp only;split<;>simp
theorem Zb3{E:TE}{i:Z7}{row:List Int}(hw:Y5 i)(hm:may i=true)(hM:∀m∈E.M,m.Args.length<4611686018427387904):(Um E i row).1.length<4611686018427387904:=by
 obtain⟨o0,o1⟩:=Z9t hw hm;obtain⟨s,hs,h⟩:=Z7H o0 o1;unfold Um;rw[hs];dsimp only;rcases h with ⟨h2,h3,-,-⟩|⟨rfl,ho⟩
 ·rw[if_pos h2];dsimp only;omega
 ·rw[if_neg (by simp)];split
  ·simp
  ·split
   ·simp
   ·split
    ·unfold At;dsimp only;rcases Nat.lt_or_ge i.A.toNat E.M.length with z|z
     ·rw[List.getElem?_eq_getElem z];exact hM _ (List.getElem_mem z)
     ·rw[List.getElem?_eq_none z];simp[Zb.zero]
    ·split
     ·simp
     ·split
      ·simp
      ·simp
def Z4I(t row:List Int):Bool:=(t.zip (row.drop (row.length-t.length))).all fun x=>decide (x.1=0∨x.1=x.2)
def XZ(E:TE)(i:Z7)(row:List Int):List Int×Int:=if row.length<(Um E i row).1.length then([],101)else if Z4I (Um E i row).1 row=true then(row.take (row.length-(Um E i row).1.length)++(Um E i row).2,0)else([],100)
theorem Zj9{E:TE}{mig:Int}{ar lo:List Int}{re:Bool}{fu sta he:Int}{co:List Z7}{rows:List Zi}{i:Z7}{row:List Int}(hw:Y5 i)(hm:may i=true)(ht:there E i=true)(hrow:row.length≤100000)(hM:∀m∈E.M,m.Args.length<4611686018427387904) :
    Xq.f E.G E.P E.M mig ar lo E.res re fu sta he co E.K rows i row=some (XZ E i row,rows):=by
 have hg:=Z72 (E:=E) (row:=row) hw hm;have htk:=Zb3 (E:=E) (row:=row) hw hm hM;unfold Xq.f XZ;have hs:=Zj8 (mig:=mig) (ar:=ar) (lo:=lo) (re:=re) (fu:=fu) (sta:=sta) (he:=he) (co:=co) (rows:=rows) hw hm ht hrow;generalize Um E i row=sh at hg htk hs ⊢
 obtain⟨t,g⟩:=sh;dsimp only at hg htk hs ⊢;have w:IntKind.i64.wrap ((row.length:Int)-(t.length:Int))=(row.length:Int)-t.length:=ZW (by omega) (by omega);by_cases hlt:row.length<t.length
 ·rw[if_pos hlt,Zf];dsimp only[Xq.F];rw[hs,bS,w,if_pos (by omega)]
 ·rw[if_neg hlt,Ze (t :=.l1 (⟨t,g⟩,rows) ((0:Nat):Int))]
  ·obtain⟨r,hr,hc⟩:=Z02 (F:=Xq.F E.G E.P E.M mig ar lo E.res re fu sta he co E.K rows i row) (n:=t.length) (b:=((row.take (row.length-t.length)++g,0),rows)) (a:=fun _=>(([],100),rows)) (fun k =>.l1 (⟨t,g⟩,rows) (k:Int)) (fun k=>match (t.zip (row.drop (row.length-t.length)))[k]? with|some x => !decide (x.1=0∨x.1=x.2)|none=>false) (fun k hk=>by
    dsimp only[Xq.F];have hk2:row.length-t.length+k<row.length:=by omega
    have w2:IntKind.i64.wrap ((row.length:Int)-t.length+k)=((row.length-t.length+k:Nat):Int):=by rw[ZW (by omega) (by omega)];omega
    rw[if_pos (by omega),Zy hk,w,w2,Zy hk2];simp only[bS,Zu k (by omega)];rw[List.getElem?_eq_getElem (by simp;omega),List.getElem_zip,List.getElem_drop];dsimp only;by_cases h0:t[k]=0
    ·simp[h0]
    ·by_cases h1:t[k]=row[row.length-t.length+k]
     ·simp[h1]
     ·simp[h0,h1]) (by
    dsimp only[Xq.F];have et:((row.length:Int)-t.length).toNat=row.length-t.length:=by omega
    rw[if_neg (by omega),w,if_pos (by omega),et,Z7G (by simp;omega)];rfl)
   rw[hr];congr 1;unfold Z4I;rcases hc with ⟨k,hk,hp,rfl⟩|⟨hn,rfl⟩
   ·rw[if_neg];intro hall;rw[List.all_eq_true]at hall;split at hp
    ·rename_i x hx
     have:=hall x (List.mem_of_getElem? hx);rw[this]at hp;cases hp
    ·cases hp
   ·rw[if_pos];rw[List.all_eq_true];intro x hx;obtain⟨k,hk,hx⟩:=List.mem_iff_getElem.1 hx;have h2:=hn k (by simp at hk;omega);rw[List.getElem?_eq_getElem hk,hx]at h2;dsimp only at h2;rw[Bool.not_eq_false']at h2;exact h2
  ·dsimp only[Xq.F];rw[hs,bS,w,if_neg (by omega)];rfl
theorem Z73{E:TE}{i:Z7}{row:List Int}(hw:Y5 i)(hm:may i=true):(XZ E i row).1.length≤row.length+2:=by
 have hg:=Z72 (E:=E) (row:=row) hw hm;unfold XZ;split
 ·simp
 ·split
  ·simp;omega
  ·simp
end Y8
namespace Y8
open Zz
def R0:Zi:=Zi.zero
def put(next:List Int):List Zi→List Int→Int×List Zi
 |rows,[]=>(0,rows)
 |rows,w::ws=>if(At rows R0 w).Reached=true∧(At rows R0 w).Kinds≠next then(100,rows)else put next (rows.set w.toNat ⟨true,next⟩) ws
def Tz(E:TE)(l:List Z7)(rows:List Zi)(a:Nat):Int×List Zi:=
 if(At rows R0 a).Reached=true then(if(XZ E (At l Z7.zero a) (At rows R0 a).Kinds).2≠0 then((XZ E (At l Z7.zero a) (At rows R0 a).Kinds).2,rows)else put (XZ E (At l Z7.zero a) (At rows R0 a).Kinds).1 rows (Zz.ways l a))else(0,rows)
theorem Z4J{α:Type}{xs:List α}{d:α}{a:Nat}(h:a<xs.length):At xs d (a:Int)=xs[a]:=by
 unfold At;rw[show((a:Int).toNat)=a from by omega,List.getElem?_eq_getElem h];rfl
structure Well(E:TE)(l:List Z7):Prop where
 known:Known l
 fine:UK l
 wf:∀x∈l,Y5 x
 th:∀x∈l,there E x=true
 M:∀m∈E.M,m.Args.length<4611686018427387904
def Sz(k:Nat)(rows:List Zi):Prop:=rows.length=200∧∀r∈rows,r.Kinds.length≤2*k
theorem Zhn{k:Nat}{next:List Int}(hn:next.length≤2*k):∀(ws:List Int) (rows:List Zi),Sz k rows→Sz k (put next rows ws).2
 | [],rows,h=>h
 |w::ws,rows,h=>by
  unfold put;split
  ·exact h
  ·refine Zhn hn ws _ ⟨by rw[List.length_set];exact h.1,fun r hr=>?_⟩;rcases List.mem_or_eq_of_mem_set hr with hr|rfl
   ·exact h.2 r hr
   ·exact hn
theorem Zdh{α:Type}{xs:List α}{d:α}{a:Int}{p:α→Prop}(hd:p d)(h:∀x∈xs,p x):p (At xs d a):=by
 unfold At;rcases Nat.lt_or_ge a.toNat xs.length with z|z
 ·rw[List.getElem?_eq_getElem z];exact h _ (List.getElem_mem z)
 ·rw[List.getElem?_eq_none z];exact hd
theorem Zja{E:TE}{l:List Z7}(W:Well E l){k:Nat}(hk:k<l.length){rows:List Zi}(h:Sz k rows):Sz (k+1) (Tz E l rows k).2:=by
 have h':Sz (k+1) rows:=⟨h.1,fun r hr=>by have:=h.2 r hr;omega⟩
 unfold Tz;split
 ·split
  ·exact h'
  ·refine Zhn ?_ _ _ h';have hm:=W.known.2.2 _ (List.getElem_mem hk);have hw:=W.wf _ (List.getElem_mem hk);rw[Z4J hk];have:=Z73 (E:=E) (row:=(At rows R0 (k:Int)).Kinds) hw hm;have h2:(At rows R0 (k:Int)).Kinds.length≤2*k:=Zdh (p:=fun r:Zi=>r.Kinds.length≤2*k) (by simp[R0,Zi.zero]) h.2;omega
 ·exact h'
theorem Zjb{E:TE}{mig:Int}{ar lo:List Int}{re:Bool}{fu sta he:Int}{l:List Z7}(W:Well E l){rows:List Zi}{k:Nat}(hk:k<l.length)(h:Sz k rows) :
    YR.f E.G E.P E.M mig ar lo E.res re fu sta he l E.K rows (k:Int)=some (Tz E l rows k):=by
 have hn:l.length≤200:=W.known.2.1;have hm:=W.known.2.2 _ (List.getElem_mem hk);have hw:=W.wf _ (List.getElem_mem hk);have ht:=W.th _ (List.getElem_mem hk);have hk2:k<rows.length:=by rw[h.1];omega
 have hr:rows[k].Kinds.length≤2*k:=h.2 _ (List.getElem_mem hk2);have ha:=Zj9 (mig:=mig) (ar:=ar) (lo:=lo) (re:=re) (fu:=fu) (sta:=sta) (he:=he) (co:=l) (rows:=rows) hw hm ht (row:=rows[k].Kinds) (by omega) W.M;have hl:=Z73 (E:=E) (row:=rows[k].Kinds) hw hm;have hws:=(Zhk (by omega) W.wf).2.2.2 k W.known W.fine hk;unfold YR.f Tz;rw[Z4J hk2,Z4J hk];by_cases hre:rows[k].Reached=true
 ·rw[if_pos hre];by_cases hq:(XZ E l[k] rows[k].Kinds).2≠0
  ·rw[if_pos hq,Zf];dsimp only[YR.F];rw[Zy hk2,bS,if_neg (by simp[hre]),Zy hk,bS,ha,bS,if_pos hq]
  ·rw[if_neg hq,Ze (t :=.l1 (XZ E l[k] rows[k].Kinds,rows) (Zz.ways l k,0) rows ((0:Nat):Int)) (by
    dsimp only[YR.F];rw[Zy hk2,bS,if_neg (by simp[hre]),Zy hk,bS,ha,bS,if_neg hq,hws];rfl)]
   have hf:=Z42 W.known W.fine hk;have key:∀(ws:List Int) (j:Nat) (rs:List Zi),(Zz.ways l k).drop j=ws→rs.length=200→(∀r∈rs,r.Kinds.length≤2*k+2)→Zw (YR.F E.G E.P E.M mig ar lo E.res re fu sta he l E.K rows k) (.l1 (XZ E l[k] rows[k].Kinds,rows) (Zz.ways l k,0) rs (j:Int))=some (put (XZ E l[k] rows[k].Kinds).1 rs ws):=by
    intro ws;induction ws with
    |nil=>
     intro j rs hd hrs _;have hj:(Zz.ways l k).length≤j:=by simpa using hd
     refine Zf ?_;dsimp only[YR.F];rw[if_neg (by omega)];rfl
    |cons w ws ih=>
     intro j rs hd hrs hsz;have hj:j<(Zz.ways l k).length:=by
      rcases Nat.lt_or_ge j (Zz.ways l k).length with z|z
      ·exact z
      ·rw[List.drop_eq_nil_of_le z]at hd;cases hd
     have hw':(Zz.ways l k)[j]=w:=by
      have:=congrArg (fun z=>z[0]?) hd;simp[List.getElem?_eq_getElem hj]at this;exact this
     obtain⟨w0,w1,-⟩:=hf.2.2 j hj;rw[hw']at w0 w1;have hle:=hf.2.1;unfold put;have hel:elt rs w=some (At rs R0 w):=JM R0 w0 (by rw[hrs];omega);have hs8:ZG.f (At rs R0 w).Kinds (XZ E l[k] rows[k].Kinds).1=some (decide ((At rs R0 w).Kinds=(XZ E l[k] rows[k].Kinds).1)):=Zkf (by
      have:(At rs R0 w).Kinds.length≤2*k+2:=Zdh (p:=fun r:Zi=>r.Kinds.length≤2*k+2) (by simp[R0,Zi.zero]) hsz;omega)
     have step:∀b:Bool,b=decide ((At rs R0 w).Reached=true∧(At rs R0 w).Kinds≠(XZ E l[k] rows[k].Kinds).1)→YR.F E.G E.P E.M mig ar lo E.res re fu sta he l E.K rows k (.l1 (XZ E l[k] rows[k].Kinds,rows) (Zz.ways l k,0) rs (j:Int))=if b=true then some (.inr (100,rs))else some (.inl (.l1 (XZ E l[k] rows[k].Kinds,rows) (Zz.ways l k,0) (rs.set w.toNat ⟨true,(XZ E l[k] rows[k].Kinds).1⟩) ((j+1:Nat):Int))):=by
      rintro b rfl;dsimp only[YR.F];rw[if_pos (by omega),Zy hj,hw',bS,hel];simp only[bS,Zu j (by omega)];rw[hs8];by_cases q1:(At rs R0 w).Reached=true
      ·by_cases q2:(At rs R0 w).Kinds=(XZ E l[k] rows[k].Kinds).1
       ·simp[q1,q2]
       ·simp[q1,q2]
      ·simp[q1]
     by_cases hc:(At rs R0 w).Reached=true∧(At rs R0 w).Kinds≠(XZ E l[k] rows[k].Kinds).1
     ·rw[if_pos hc,Zf (r:=(100,rs))];rw[step true (by rw[eq_comm,decide_eq_true_eq];exact hc),if_pos rfl]
     ·rw[if_neg hc,Ze (t :=.l1 (XZ E l[k] rows[k].Kinds,rows) (Zz.ways l k,0) (rs.set w.toNat ⟨true,(XZ E l[k] rows[k].Kinds).1⟩) ((j+1:Nat):Int))]
      ·refine ih (j+1) _ ?_ (by rw[List.length_set];exact hrs) fun r hr=>?_
       ·rw[←List.drop_drop,hd];rfl
       ·rcases List.mem_or_eq_of_mem_set hr with hr|rfl
        ·exact hsz r hr
        ·dsimp only;omega
      ·rw[step false (by rw[eq_comm,decide_eq_false_iff_not];exact hc),if_neg (by simp)]
   exact key _ 0 rows rfl h.1 fun r hr=>by have:=h.2 r hr;omega
 ·rw[if_neg hre,Zf];dsimp only[YR.F];rw[Zy hk2,bS,if_pos (by simpa using hre)]
def Z0k:List Zi:=(List.replicate 200 Zi.zero).set 0 ⟨true,[]⟩
def Xy(E:TE)(l:List Z7):Nat→Int×List Zi
 | 0=>(0,Z0k)
 |k+1=>if(Xy E l k).1≠0 then Xy E l k else Tz E l (Xy E l k).2 k
def Jt(E:TE)(l:List Z7):List Zi×Int:=if(Xy E l l.length).1≠0 then([],(Xy E l l.length).1)else((Xy E l l.length).2.take l.length,0)
theorem Z2e{E:TE}{l:List Z7}(W:Well E l):∀k,k≤l.length→Sz k (Xy E l k).2
 | 0,_=>⟨by show Z0k.length=200;unfold Z0k;rw[List.length_set,List.length_replicate],fun r hr=>by
  unfold Xy Z0k at hr;rcases List.mem_or_eq_of_mem_set hr with hr|rfl
  ·rw[List.eq_of_mem_replicate hr];exact Nat.zero_le _
  ·exact Nat.zero_le _⟩
 |k+1,hk=>by
  have ih:=Z2e W k (by omega);unfold Xy;split
  ·exact⟨ih.1,fun r hr=>by have:=ih.2 r hr;omega⟩
  ·exact Zja W hk ih
def Yw(m:Zc)(x:Zb):TE:=⟨m.ZA,m.Pool,m.Methods,x.Result,x.Args++x.Zk⟩
end Y8
namespace Y8
open Zz
def l2s(rows:List Zi):YF.S :=.l2 rows rows 0
theorem Zow{m:Zc}{k:Int}{rows:List Zi}(h:rows.length≤200)(hs:∀r∈rows,r.Kinds.length≤1000):Zw (YF.F m k) (l2s rows)=some (rows,0):=by
 refine(TF (F:=YF.F m k) (n:=rows.length) (fun j =>.l2 rows rows (j:Int)) (fun j hj=>?_)).trans (Zf ?_)
 ·dsimp only[YF.F];have:=hs _ (List.getElem_mem hj);rw[if_pos (by omega),Zy hj,bS,Zhl (by omega)];simp only[bS,Zu j (by omega)];have e:rows.set (j:Int).toNat ({ rows[j]with Kinds:=rows[j].Kinds }:Zi)=rows:=by
   rw[show(j:Int).toNat=j from by omega];exact List.set_getElem_self hj
  rw[e]
 ·dsimp only[YF.F];rw[if_neg (by omega)]
end Y8
namespace Y8
open Zz
theorem Z74{m:Zc}{k:Int}{x:Zb}(h0:0≤k)(h1:k<m.Methods.length)(hx:elt m.Methods k=some x)(W:Well (Yw m x) x.Code)(hlen:x.Args.length+x.Zk.length≤140737488355328) :
    YF.f m k=some (Jt (Yw m x) x.Code):=by
 have hn:x.Code.length≤200:=W.known.2.1;have hp:1≤x.Code.length:=W.known.1;unfold YF.f;have hck:UN.f x.Code=some 0:=by
  unfold UN.f;rw[(Z2J (by omega) W.wf).2.1 W.known W.fine];rfl
 have hth:YT.f x.Code m.ZA m.Pool m.Methods m.Zo x.Args x.Zk x.Result x.Reads x.Fuel x.Stack x.Heap x.Code (x.Args++x.Zk)=some false:=by
  refine(Z5x (E:=Yw m x) (l:=x.Code) (by omega)).trans ?_;congr 1;rw[List.any_eq_false];intro y hy;rw[W.th y hy];simp
 rw[Ze (t :=.l1 x (x.Args++x.Zk) Z0k ((0:Nat):Int)) (by
  dsimp only[YF.F];rw[if_neg (by simp;omega),hx,bS,hck,bS,if_neg (by simp),Z7G hlen,bS,hth];simp only[bS];rfl)]
 have key:∀j,j≤x.Code.length→Zw (YF.F m k) (.l1 x (x.Args++x.Zk) Z0k ((0:Nat):Int))=if(Xy (Yw m x) x.Code j).1≠0 then some ([],(Xy (Yw m x) x.Code j).1)else Zw (YF.F m k) (.l1 x (x.Args++x.Zk) (Xy (Yw m x) x.Code j).2 (j:Int)):=by
  intro j;induction j with
  |zero=>intro _;rfl
  |succ j ih=>
   intro hj;rw[ih (by omega)];have hz:=Z2e W j (by omega);by_cases he:(Xy (Yw m x) x.Code j).1≠0
   ·have e1:Xy (Yw m x) x.Code (j+1)=Xy (Yw m x) x.Code j:=by rw[Xy,if_pos he]
    rw[e1,if_pos he,if_pos he]
   ·have e1:Xy (Yw m x) x.Code (j+1)=Tz (Yw m x) x.Code (Xy (Yw m x) x.Code j).2 j:=by rw[Xy,if_neg he]
    rw[e1,if_neg he];have hpl:=Zjb (mig:=m.Zo) (ar:=x.Args) (lo:=x.Zk) (re:=x.Reads) (fu:=x.Fuel) (sta:=x.Stack) (he:=x.Heap) W (k:=j) (by omega) hz;have hpl:YR.f m.ZA m.Pool m.Methods m.Zo x.Args x.Zk x.Result x.Reads x.Fuel x.Stack x.Heap x.Code (x.Args++x.Zk) (Xy (Yw m x) x.Code j).2 (j:Int)=_:=hpl;generalize Tz (Yw m x) x.Code (Xy (Yw m x) x.Code j).2 j=pr at hpl ⊢
    by_cases hq:pr.1≠0
    ·rw[if_pos hq,Zf];dsimp only[YF.F];rw[if_pos (by omega),hpl,bS,if_pos hq]
    ·rw[if_neg hq];refine Ze ?_;dsimp only[YF.F];rw[if_pos (by omega),hpl,bS,if_neg hq,Zu j (by omega)]
 rw[key _ (Nat.le_refl _)];unfold Jt;by_cases he:(Xy (Yw m x) x.Code x.Code.length).1≠0
 ·rw[if_pos he,if_pos he]
 ·rw[if_neg he,if_neg he];have hz:=Z2e W _ (Nat.le_refl _);have hl:((Xy (Yw m x) x.Code x.Code.length).2.take x.Code.length).length≤200:=by rw[List.length_take];omega
  rw[Ze (t:=l2s ((Xy (Yw m x) x.Code x.Code.length).2.take x.Code.length)) (by
   dsimp only[YF.F];rw[if_neg (by omega),if_pos (by omega),show((x.Code.length:Int)).toNat=x.Code.length from by omega,Zhm hl];rfl)]
  exact Zow hl fun r hr=>by have:=hz.2 r (List.mem_of_mem_take hr);omega
theorem Z75{m:Zc}{k:Int}{x:Zb}(h0:0≤k)(h1:k<m.Methods.length)(hx:elt m.Methods k=some x)(hl:x.Code.length<4611686018427387904)(hw:∀i∈x.Code,Y5 i)(hlen:x.Args.length+x.Zk.length≤140737488355328) :
    (¬Known x.Code→YF.f m k=some ([],40))∧(Known x.Code→¬UK x.Code→YF.f m k=some ([],90))∧(Known x.Code→UK x.Code→(∃i∈x.Code,there (Yw m x) i=false)→YF.f m k=some ([],100)):=by
 obtain⟨a1,a2,a3⟩:=Z2J hl hw;unfold YF.f;refine⟨fun h=>?_,fun h hf=>?_,fun h hf ht=>?_⟩
 ·rw[Zf];dsimp only[YF.F];rw[if_neg (by simp;omega),hx];simp only[bS];unfold UN.f;rw[a1 h];rfl
 ·rw[Zf];dsimp only[YF.F];rw[if_neg (by simp;omega),hx];simp only[bS];unfold UN.f;rw[a3 h hf];rfl
 ·have hth:YT.f x.Code m.ZA m.Pool m.Methods m.Zo x.Args x.Zk x.Result x.Reads x.Fuel x.Stack x.Heap x.Code (x.Args++x.Zk)=some true:=by
   refine(Z5x (E:=Yw m x) (l:=x.Code) (by omega)).trans ?_;congr 1;rw[List.any_eq_true];obtain⟨i,hi,ht⟩:=ht;exact⟨i,hi,by rw[ht];rfl⟩
  rw[Zf];dsimp only[YF.F];rw[if_neg (by simp;omega),hx];simp only[bS];unfold UN.f;rw[a2 h hf];simp only[bS];rw[if_neg (by simp),Z7G hlen];simp only[bS];rw[hth];simp only[bS];rfl
end Y8
namespace Y8
open Zz
def g(rows:List Zi)(p:Nat):Zi:=rows[p]?.getD R0
theorem Zox(rows:List Zi)(w:Int):At rows R0 w=g rows w.toNat:=rfl
theorem Zkh{rows:List Zi}{k p:Nat}{v:Zi}(h:k<rows.length):g (rows.set k v) p=if p=k then v else g rows p:=by
 unfold g;by_cases e:p=k
 ·subst e;rw[if_pos rfl,List.getElem?_set_self h];rfl
 ·rw[if_neg e,List.getElem?_set_ne (by omega)]
structure Put(next:List Int)(rows:List Zi)(ws:List Int)(rows':List Zi):Prop where
 len:rows'.length=rows.length
 keep:∀p,(g rows p).Reached=true→g rows' p=g rows p
 ways:∀w∈ws,g rows' w.toNat=⟨true,next⟩
 new:∀p,(g rows' p).Reached=true→(g rows p).Reached=true∨∃w∈ws,w.toNat=p
 old:∀p,¬(g rows' p).Reached=true→g rows' p=g rows p
theorem Zho{next:List Int}:∀(ws:List Int) (rows:List Zi),(∀w∈ws,w.toNat<rows.length)→(put next rows ws).1=0→Put next rows ws (put next rows ws).2
 | [],rows,_,_=>⟨rfl,fun _ _=>rfl,fun w hw=>by simp at hw,fun p h =>.inl h,fun _ _=>rfl⟩
 |w::ws,rows,hl,h=>by
  unfold put at h ⊢;by_cases hc:(At rows R0 w).Reached=true∧(At rows R0 w).Kinds≠next
  ·rw[if_pos hc]at h;cases h
  ·rw[if_neg hc]at h ⊢;have hw:w.toNat<rows.length:=hl w (by simp);have ih:=Zho ws _ (fun u hu=>by rw[List.length_set];exact hl u (by simp[hu])) h;have same:(g rows w.toNat).Reached=true→g rows w.toNat=⟨true,next⟩:=by
    intro hr;rw[Zox]at hc;generalize g rows w.toNat=r at hc hr
    obtain⟨a,b⟩:=r;dsimp only at hr hc;subst hr;have:b=next:=by
     refine Classical.byContradiction fun hb=>hc ⟨rfl,hb⟩
    rw[this]
   have hs:=fun p=>Zkh (rows:=rows) (p:=p) (v:=(⟨true,next⟩:Zi)) hw;refine⟨by rw[ih.len,List.length_set],fun p hp=>?_,fun u hu=>?_,fun p hp=>?_,fun p hp=>?_⟩
   ·have e:g (rows.set w.toNat ⟨true,next⟩) p=g rows p:=by
     rw[hs];by_cases e:p=w.toNat
     ·subst e;rw[if_pos rfl,same hp]
     ·rw[if_neg e]
    rw[ih.keep p (by rw[e];exact hp),e]
   ·rcases List.mem_cons.1 hu with rfl|hu
    ·have e:g (rows.set u.toNat ⟨true,next⟩) u.toNat=⟨true,next⟩:=by rw[hs,if_pos rfl]
     rw[ih.keep _ (by rw[e]),e]
    ·exact ih.ways u hu
   ·rcases ih.new p hp with h1|⟨u,hu,e⟩
    ·rw[hs]at h1;by_cases e:p=w.toNat
     ·exact .inr ⟨w,by simp,e.symm⟩
     ·rw[if_neg e]at h1;exact .inl h1
    ·exact .inr ⟨u,by simp[hu],e⟩
   ·have h1:=ih.old p hp;rw[hs]at h1;by_cases e:p=w.toNat
    ·rw[if_pos e]at h1;rw[h1]at hp;exact absurd rfl hp
    ·rw[if_neg e]at h1;exact h1
structure Inv(E:TE)(l:List Z7)(t:Nat)(rows:List Zi):Prop where
 len:rows.length=200
 r0:g rows 0=⟨true,[]⟩
 un:∀p,¬(g rows p).Reached=true→(g rows p).Kinds=[]
 top:∀p,(g rows p).Reached=true→p<l.length
 led:∀p,(g rows p).Reached=true→p=0∨∃q,q<p∧q<t∧(g rows q).Reached=true∧(p:Int)∈Zz.ways l q
 done:∀q (hq:q<l.length),q<t→(g rows q).Reached=true→(XZ E l[q] (g rows q).Kinds).2=0∧∀w∈Zz.ways l q,g rows w.toNat=⟨true,(XZ E l[q] (g rows q).Kinds).1⟩
theorem Zhp{l:List Z7}(hk:Known l)(hf:UK l){a:Nat}(ha:a<l.length)(VB:l[a].Op=29):0≤l[a].A∧l[a].A<a∧Pr (KK l) l.length l[a].A.toNat a∧KK l l[a].A.toNat=.loop:=by
 obtain⟨o1,o2⟩:=Z01 hf.1;have hm:=hk.2.2 _ (List.getElem_mem ha);have hp:=KN hm (.inr (.inr VB));have hkk:KK l a=.again l[a].A.toNat:=by rw[Z7F ha,if_neg (by omega),if_pos VB]
 obtain⟨T,hT⟩:=Z3y hf.1.1 ha hkk;have:=((Ja (KK l) a fun j hj=>hf.1.1 j (by omega)).1 l[a].A.toNat).1 (by rw[hT];simp);obtain⟨b1,b2⟩:=o2 a _ ha hkk;exact⟨hp.1,by omega,⟨b1,ha,b2,hkk⟩,b2⟩
theorem Zhq{l:List Z7}{a:Nat}(ha:a<l.length)(h:l[a].Op=28):Zz.ways l a=[((a+1:Nat):Int)]:=by
 unfold Zz.ways;rw[List.getElem?_eq_getElem ha];dsimp only;rw[if_neg (by omega),if_neg (by omega),if_neg (by omega),if_neg (by omega)]
theorem inv_zero{E:TE}{l:List Z7}(hl:1≤l.length):Inv E l 0 Z0k:=by
 have h0:(0:Nat)<(List.replicate 200 Zi.zero).length:=by rw[List.length_replicate];omega
 have hs:=fun p=>Zkh (p:=p) (v:=(⟨true,[]⟩:Zi)) h0;have hz:∀p,g (List.replicate 200 Zi.zero) p=R0:=by
  intro p;unfold g;rcases Nat.lt_or_ge p 200 with z|z
  ·rw[List.getElem?_eq_getElem (by rw[List.length_replicate];exact z),List.getElem_replicate];rfl
  ·rw[List.getElem?_eq_none (by rw[List.length_replicate];exact z)];rfl
 have hg:∀p,g Z0k p=if p=0 then ⟨true,[]⟩else R0:=fun p=>by unfold Z0k;rw[hs,hz]
 have hr:∀p,(g Z0k p).Reached=true→p=0:=by
  intro p hp;rw[hg]at hp;by_cases e:p=0
  ·exact e
  ·rw[if_neg e]at hp;cases hp
 refine⟨by unfold Z0k;rw[List.length_set,List.length_replicate],by rw[hg,if_pos rfl],fun p hp=>?_,fun p hp=>by have:=hr p hp;omega,fun p hp =>.inl (hr p hp),fun q _ hq=>by omega⟩;rw[hg];split<;>rfl
theorem Zjc{E:TE}{l:List Z7}(W:Well E l){t:Nat}(ht:t<l.length){rows:List Zi}(I:Inv E l t rows)(h:(Tz E l rows t).1=0):Inv E l (t+1) (Tz E l rows t).2:=by
 have hn:l.length≤200:=W.known.2.1;unfold Tz at h ⊢;rw[Zox,show((t:Int)).toNat=t from by omega,Z4J ht]at h ⊢;by_cases hre:(g rows t).Reached=true
 ·rw[if_pos hre]at h ⊢;by_cases he:(XZ E l[t] (g rows t).Kinds).2≠0
  ·rw[if_pos he]at h;exact absurd h he
  ·rw[if_neg he]at h ⊢;have he:(XZ E l[t] (g rows t).Kinds).2=0:=Classical.not_not.1 he;have hf:=Z42 W.known W.fine ht;have hin:∀w∈Zz.ways l t,0≤w∧w<l.length:=by
    intro w hw;obtain⟨i,hi,rfl⟩:=List.mem_iff_getElem.1 hw;have:=hf.2.2 i hi;exact⟨this.1,this.2.1⟩
   have P:=Zho (next:=(XZ E l[t] (g rows t).Kinds).1) (Zz.ways l t) rows (fun w hw=>by have:=hin w hw;rw[I.len];omega) h;generalize (put (XZ E l[t] (g rows t).Kinds).1 rows (Zz.ways l t)).2=rows' at P ⊢
   have back:∀w∈Zz.ways l t,w.toNat≤t→(g rows w.toNat).Reached=true:=by
    intro w hw hle;obtain⟨i,hi,rfl⟩:=List.mem_iff_getElem.1 hw;obtain⟨w0,w1,w2,-,-⟩:=hf.2.2 i hi;obtain⟨VB,e⟩:=w2 (by omega);obtain⟨a0,a1,pr,kl⟩:=Zhp W.known W.fine ht VB;have desc:∀r,r≤t→l[t].A.toNat<r→(g rows r).Reached=true→(g rows l[t].A.toNat).Reached=true:=by
     intro r;induction r using Nat.strongRecOn with
     | _ r ih=>
      intro hr hA hg;rcases I.led r hg with e0|⟨q,q1,q2,q3,q4⟩
      ·omega
      ·have hq:q<l.length:=by omega
       obtain⟨j,hj,ej⟩:=List.mem_iff_getElem.1 q4;obtain⟨-,-,-,-,hy⟩:=(Z42 W.known W.fine hq).2.2 j hj;have:=hy (l[t].A.toNat,t) pr (by rw[ej];dsimp only;omega) (by rw[ej];dsimp only;omega);dsimp only at this;by_cases eq:q=l[t].A.toNat
       ·rw[←eq];exact q3
       ·exact ih q q1 (by omega) (by omega) q3
    have hA:=desc t (Nat.le_refl _) (by omega) hre;have hAl:l[t].A.toNat<l.length:=by omega
    have hop:l[l[t].A.toNat].Op=28:=(Z39 hAl).1 kl;have:=(I.done _ hAl (by omega) hA).2 ((l[t].A.toNat+1:Nat):Int) (by rw[Zhq hAl hop];simp);have e2:(Zz.ways l t)[i].toNat=(((l[t].A.toNat+1:Nat):Int)).toNat:=by rw[e];omega
    rw[e2,this]
   have was:∀p,p≤t→(g rows' p).Reached=true→(g rows p).Reached=true:=by
    intro p hp hr;rcases P.new p hr with h1|⟨w,hw,rfl⟩
    ·exact h1
    ·exact back w hw hp
   refine⟨by rw[P.len,I.len],by rw[P.keep 0 (by rw[I.r0]),I.r0],fun p hp=>?_,fun p hp=>?_,fun p hp=>?_,fun q hq hqt hr=>?_⟩
   ·have e:=P.old p hp;rw[e]at hp ⊢;exact I.un p hp
   ·rcases P.new p hp with h1|⟨w,hw,rfl⟩
    ·exact I.top p h1
    ·have:=hin w hw;omega
   ·have carry:(g rows p).Reached=true→p=0∨∃q,q<p∧q<t+1∧(g rows' q).Reached=true∧(p:Int)∈Zz.ways l q:=by
     intro h1;rcases I.led p h1 with e|⟨q,q1,q2,q3,q4⟩
     ·exact .inl e
     ·exact .inr ⟨q,q1,by omega,by rw[P.keep q q3];exact q3,q4⟩
    rcases P.new p hp with h1|⟨w,hw,e⟩
    ·exact carry h1
    ·rcases Nat.lt_or_ge t p with z|z
     ·have:=hin w hw;have ep:(p:Int)=w:=by omega
      exact .inr ⟨t,z,by omega,by rw[P.keep t hre];exact hre,by rw[ep];exact hw⟩
     ·exact carry (was p z hp)
   ·have h1:=was q (by omega) hr;rw[P.keep q h1];by_cases e:q=t
    ·subst e;exact⟨he,P.ways⟩
    ·obtain⟨d1,d2⟩:=I.done q hq (by omega) h1;refine⟨d1,fun w hw=>?_⟩;rw[P.keep _ (by rw[d2 w hw]),d2 w hw]
 ·rw[if_neg hre];refine⟨I.len,I.r0,I.un,I.top,fun p hp=>?_,fun q hq hqt hr=>?_⟩
  ·rcases I.led p hp with e|⟨q,q1,q2,q3,q4⟩
   ·exact .inl e
   ·exact .inr ⟨q,q1,by omega,q3,q4⟩
  ·by_cases e:q=t
   ·subst e;exact absurd hr hre
   ·exact I.done q hq (by omega) hr
theorem Z9u{E:TE}{l:List Z7}(W:Well E l):∀k,k≤l.length→(Xy E l k).1=0→Inv E l k (Xy E l k).2
 | 0,_,_=>inv_zero W.known.1
 |k+1,hk,h=>by
  unfold Xy at h ⊢;by_cases he:(Xy E l k).1≠0
  ·rw[if_pos he]at h;exact absurd h he
  ·rw[if_neg he]at h ⊢;exact Zjc W hk (Z9u W k (by omega) (Classical.not_not.1 he)) h
structure Told(E:TE)(l:List Z7)(rows:List Zi):Prop where
 len:rows.length=l.length
 r0:g rows 0=⟨true,[]⟩
 un:∀p,¬(g rows p).Reached=true→(g rows p).Kinds=[]
 led:∀p,(g rows p).Reached=true→p=0∨∃q,q<p∧(g rows q).Reached=true∧(p:Int)∈Zz.ways l q
 done:∀q (hq:q<l.length),(g rows q).Reached=true→(XZ E l[q] (g rows q).Kinds).2=0∧∀w∈Zz.ways l q,g rows w.toNat=⟨true,(XZ E l[q] (g rows q).Kinds).1⟩
 sz:∀r∈rows,r.Kinds.length≤400
theorem Zoz{rows:List Zi}{n:Nat}(hu:∀p,n≤p→g rows p=R0)(p:Nat):g (rows.take n) p=g rows p:=by
 rcases Nat.lt_or_ge p n with z|z
 ·unfold g;rw[List.getElem?_take_of_lt z]
 ·rw[hu p z];unfold g;rw[List.getElem?_eq_none (by rw[List.length_take];omega)];rfl
theorem Z52{E:TE}{l:List Z7}(W:Well E l)(h:(Jt E l).2=0):Told E l (Jt E l).1:=by
 have hn:l.length≤200:=W.known.2.1;unfold Jt at h ⊢;by_cases he:(Xy E l l.length).1≠0
 ·rw[if_pos he]at h;exact absurd h he
 ·rw[if_neg he];have I:=Z9u W _ (Nat.le_refl _) (Classical.not_not.1 he);have S:=Z2e W _ (Nat.le_refl _);generalize (Xy E l l.length).2=rows at I S ⊢
  have hu:∀p,l.length≤p→g rows p=R0:=by
   intro p hp;have hr:¬(g rows p).Reached=true:=fun h=>by have:=I.top p h;omega
   have hk:=I.un p hr;generalize g rows p=r at hr hk ⊢
   obtain⟨a,b⟩:=r;dsimp only at hr hk;subst hk;rw[Bool.not_eq_true]at hr;subst hr;rfl
  have e:=Zoz hu;refine⟨by rw[List.length_take,I.len];omega,by rw[e,I.r0],fun p hp=>by rw[e]at hp ⊢;exact I.un p hp,fun p hp=>?_,fun q hq hr=>?_,fun r hr=>by have:=S.2 r (List.mem_of_mem_take hr);omega⟩
  ·rw[e]at hp;rcases I.led p hp with e0|⟨q,q1,-,q3,q4⟩
   ·exact .inl e0
   ·exact .inr ⟨q,q1,by rw[e];exact q3,q4⟩
  ·rw[e]at hr ⊢;obtain⟨d1,d2⟩:=I.done q hq hq hr;exact⟨d1,fun w hw=>by rw[e];exact d2 w hw⟩
end Y8
deriving instance DecidableEq for Zi
namespace Y8
open Zz
structure Small(m:Zc):Prop where
 G:m.ZA.length≤100
 P:m.Pool.length≤100
 M:m.Methods.length≤40
 x:∀x∈m.Methods,x.Args.length≤100∧x.Zk.length≤100∧x.Code.length≤300
def H(rows:List Zi):Nat→Int
 | 0=>0
 |k+1=>if((g rows k).Kinds.length:Int)>H rows k then((g rows k).Kinds.length:Int)else H rows k
theorem Z8x(rows:List Zi):∀k,0≤H rows k
 | 0=>by simp[H]
 |k+1=>by have:=Z8x rows k;unfold H;split<;>omega
theorem ZfN{rows:List Zi}{k:Nat}(h:k<rows.length):g rows k=rows[k]:=by unfold g;rw[List.getElem?_eq_getElem h];rfl
theorem Zb4{rows:List Zi}(h:rows.length<4611686018427387904):VA.f rows=some (H rows rows.length):=by
 unfold VA.f;rw[Ze (t :=.l1 (H rows 0) ((0:Nat):Int)) rfl];refine(TF (F:=VA.F rows) (n:=rows.length) (fun k =>.l1 (H rows k) (k:Int)) (fun k hk=>?_)).trans (Zf ?_)
 ·dsimp only[VA.F];rw[if_pos (by omega),Zy hk];simp only[bS,Zu k (by omega)];rw[show H rows (k+1)=if((g rows k).Kinds.length:Int)>H rows k then((g rows k).Kinds.length:Int)else H rows k from rfl,ZfN hk]
 ·dsimp only[VA.F];rw[if_neg (by omega)]
end Y8
namespace Y8
open Zz
end Y8
namespace Zz
def tm(l:List Z7)(R:List (Nat×Nat))(a:Nat):Int:=R.foldl (fun n x=>if x.1<a∧a≤x.2 then IntKind.i64.wrap (n*turns l x.1)else n) 1
theorem Zev(l:List Z7)(R:List (Nat×Nat))(x:Nat×Nat)(a:Nat):tm l (R ++ [x]) a=if x.1<a∧a≤x.2 then IntKind.i64.wrap (tm l R a*turns l x.1)else tm l R a:=by
 unfold tm;rw[List.foldl_append];rfl
def tms(l:List Z7):List Int:=(List.range l.length).map fun a=>tm l (RL (KK l) l.length) a
theorem Zbo{g:Nat→Int}{n m:Nat}{v:Int}:((List.range n).map g).set m v=(List.range n).map fun a=>if a=m then v else g a:=by
 apply List.ext_getElem?;intro i;rw[List.getElem?_set];by_cases h:m=i
 ·subst h;rw[if_pos rfl];by_cases hm:m<n
  ·rw[if_pos (by simpa using hm)];simp[hm]
  ·rw[if_neg (by simpa using hm)];simp[hm]
 ·rw[if_neg h];by_cases hm:i<n
  ·simp[hm,Ne.symm h]
  ·simp[hm]
theorem ZfO{n:Nat}(h1:1≤n)(h2:n≤200):Y4.f [1] n=some (List.replicate n 1):=by
 unfold Y4.f;have wu:IntKind.u64.wrap (n:Int)=n:=by
  simp only[IntKind.wrap,IntKind.bits,IntKind.signed];simp;omega
 have w1:IntKind.u64.wrap ((([1]:List Int).length:Nat):Int)=1:=by
  simp[IntKind.wrap,IntKind.bits,IntKind.signed]
 have hs:Y4.F [1] n .start=some (.inl (.l1 (List.replicate 1 1++List.replicate (n-1) 0) ((1:Nat):Int))):=by
  dsimp only[Y4.F];rw[if_neg (by omega)];unfold Y4.j1 Un.f;rw[w1,wu,if_pos (by omega)];simp only[bS];have e1:(1*(n:Int) / 18446744073709551616)=0:=by omega
  have e2:(1*(n:Int) % 18446744073709551616)=n:=by omega
  rw[e1,e2,if_neg (by rw[Bool.or_eq_true,decide_eq_true_eq,decide_eq_true_eq];omega)];unfold Y4.j2;dsimp only;rw[ZW (by omega) (by omega),if_pos (by omega)];have e3:((n:Int)).toNat=n:=rfl;rw[e3];obtain⟨m,rfl⟩:∃m,n=m+1:=⟨n-1,by omega⟩
  simp[List.replicate_succ]
 rw[Ze hs];have key:∀d x,1≤x→x+d=n→Zw (Y4.F [1] n) (.l1 (List.replicate x 1++List.replicate (n-x) 0) (x:Int))=some (List.replicate n 1):=by
  intro d;induction d using Nat.strongRecOn with
  |ind d ih=>
   intro x hx hd;by_cases hz:d=0
   ·subst hz;obtain rfl:x=n:=by omega
    refine Zf ?_;dsimp only[Y4.F];rw[if_neg (by simp)];simp
   ·have hlen:(List.replicate x (1:Int)++List.replicate (n-x) 0).length=n:=by simp;omega
    rw[Ze (t :=.l1 (List.replicate (x+min x (n-x)) 1++List.replicate (n-(x+min x (n-x))) 0) ((x+min x (n-x):Nat):Int)) ?_]
    ·exact ih (n-(x+min x (n-x))) (by omega) _ (by omega) (by omega)
    ·dsimp only[Y4.F];rw[hlen,if_pos (by omega),if_pos (by omega),if_pos (by omega)];have e3:((x:Int)).toNat=x:=rfl;rw[e3,ZW (by omega) (by omega)];have hc:min x (n-x)≤x:=Nat.min_le_left _ _;have hc2:min x (n-x)≤n-x:=Nat.min_le_right _ _;generalize min x (n-x)=c at hc hc2 ⊢
     have t1:(List.replicate x (1:Int)++List.replicate (n-x) 0).take x=List.replicate x 1:=by
      rw[List.take_append_of_le_length (by simp)];simp
     have t2:(List.replicate x (1:Int)++List.replicate (n-x) 0).take c=List.replicate c 1:=by
      rw[List.take_append_of_le_length (by simp;omega)];simp;omega
     have t3:(List.replicate x (1:Int)++List.replicate (n-x) 0).drop (x+c)=List.replicate (n-(x+c)) 0:=by
      rw[List.drop_append];simp;omega
     rw[t1,t2,t3,List.replicate_append_replicate];rfl
 exact key (n-1) 1 (by omega) (by omega)
theorem Z68{l:List Z7}(hlen:l.length<4611686018427387904)(hw:∀x∈l,Y5 x) :
    (¬Known l→Wx.f l=some ([],40))∧(Known l→UK l→Wx.f l=some (tms l,0))∧(Known l→¬UK l→Wx.f l=some ([],90)):=by
 obtain⟨a1,a2,a3⟩:=Z2J hlen hw;unfold Wx.f;refine⟨fun h=>Zf ?_,fun h hf=>?_,fun h hf=>Zf ?_⟩
 ·dsimp only[Wx.F];rw[a1 h];rfl
 ·obtain⟨o1,o2⟩:=Z01 hf.1;have hR:=Z70 o1;obtain⟨n1,n2,hm⟩:=h;rw[Ze (t :=.l1 ((RL (KK l) l.length).map (gF l),0) (List.replicate l.length 1) ((0:Nat):Int)) (by
   dsimp only[Wx.F];rw[a2 ⟨n1,n2,hm⟩ hf,bS,if_neg (by simp),ZfO n1 n2];rfl)]
  have key:=Tx (F:=Wx.F l) (n:=(RL (KK l) l.length).length) (b:=([],0)) (fun q =>.l1 ((RL (KK l) l.length).map (gF l),0) ((List.range l.length).map fun a=>tm l ((RL (KK l) l.length).take q) a) (q:Int)) (fun _=>True) (fun q hq _ _=>by
   have hp:=(Z1b _).1 (List.getElem_mem hq);obtain⟨t0,h0,hle,hu⟩:=o1 _ hp.1 hp.2.2.1;have:=hu _ hp;have e:elt ((RL (KK l) l.length).map (gF l)) (q:Int)=some (gF l (RL (KK l) l.length)[q]):=by rw[Zy (by simpa using hq),List.getElem_map]
   generalize hx:(RL (KK l) l.length)[q]=x at hp h0 hle hu this e
   have htl:x.2<l.length:=hp.2.1;rw[Ze (t :=.l2 ((RL (KK l) l.length).map (gF l),0) q (gF l x) ((List.range l.length).map fun a=>tm l ((RL (KK l) l.length).take q) a) ((x.1+1:Nat):Int)) (by
    dsimp only[Wx.F];rw[if_pos (by simp;omega),e];simp only[bS];have:IntKind.i64.wrap ((gF l x).From+1)=((x.1+1:Nat):Int):=Zu x.1 (by omega);rw[this])]
   have inner:=TF (F:=Wx.F l) (n:=x.2-x.1) (fun j =>.l2 ((RL (KK l) l.length).map (gF l),0) q (gF l x) ((List.range l.length).map fun a=>if x.1<a∧a<x.1+1+j then IntKind.i64.wrap (tm l ((RL (KK l) l.length).take q) a*turns l x.1)else tm l ((RL (KK l) l.length).take q) a) ((x.1+1+j:Nat):Int)) (fun j hj=>by
    have e2:elt ((List.range l.length).map fun a=>if x.1<a∧a<x.1+1+j then IntKind.i64.wrap (tm l ((RL (KK l) l.length).take q) a*turns l x.1)else tm l ((RL (KK l) l.length).take q) a) ((x.1+1+j:Nat):Int)=some (tm l ((RL (KK l) l.length).take q) (x.1+1+j)):=by
     rw[Zy (by simp;omega)];simp
    dsimp only[Wx.F];rw[if_pos (by dsimp only[gF];omega),e2];simp only[bS];have e3:((x.1+1+j:Nat):Int).toNat=x.1+1+j:=rfl;rw[Zu _ (by omega),e3,Zbo];refine congrArg some (congrArg Sum.inl ?_);have:∀(u v:List Int),u=v→(Wx.S.l2 ((RL (KK l) l.length).map (gF l),0) (q:Int) (gF l x) u ((x.1+1+j+1:Nat):Int))=.l2 ((RL (KK l) l.length).map (gF l),0) (q:Int) (gF l x) v ((x.1+1+(j+1):Nat):Int):=by
     rintro u v rfl;rfl
    refine this _ _ (List.map_congr_left fun a ha=>?_);by_cases hz:a=x.1+1+j
    ·subst hz;rw[if_pos rfl,if_pos (by omega)];rfl
    ·rw[if_neg hz];by_cases hz2:x.1<a∧a<x.1+1+j
     ·rw[if_pos hz2,if_pos (by omega)]
     ·rw[if_neg hz2,if_neg (by omega)])
   have i0:((List.range l.length).map fun a=>tm l ((RL (KK l) l.length).take q) a)=(List.range l.length).map fun a=>if x.1<a∧a<x.1+1+0 then IntKind.i64.wrap (tm l ((RL (KK l) l.length).take q) a*turns l x.1)else tm l ((RL (KK l) l.length).take q) a:=by
    refine List.map_congr_left fun a _=>?_;rw[if_neg (by omega)]
   rw[i0];refine inner.trans (Ze ?_);dsimp only[Wx.F];rw[if_neg (by dsimp only[gF];omega),Zu _ (by omega)];refine congrArg some (congrArg Sum.inl ?_);have:∀(u v:List Int),u=v→(Wx.S.l1 ((RL (KK l) l.length).map (gF l),0) u ((q+1:Nat):Int))=.l1 ((RL (KK l) l.length).map (gF l),0) v ((q+1:Nat):Int):=by
    rintro u v rfl;rfl
   refine this _ _ (List.map_congr_left fun a ha=>?_);rw[take_succ _ _ hq,Zev,hx];by_cases hz:x.1<a∧a≤x.2
   ·rw[if_pos hz,if_pos (by omega)]
   ·rw[if_neg hz,if_neg (by omega)]) (fun q _ _ h=>absurd trivial h)
  have e0:List.replicate l.length (1:Int)=(List.range l.length).map fun a=>tm l ((RL (KK l) l.length).take 0) a:=by
   apply List.ext_getElem?;intro i;by_cases hi:i<l.length
   ·simp[hi,tm]
   ·simp[hi]
  rw[e0];refine(key.1 fun _ _=>trivial).trans (Zf ?_);dsimp only[Wx.F];rw[if_neg (by simp),List.take_length];rfl
 ·dsimp only[Wx.F];rw[a3 h hf];rfl
end Zz
namespace Xd
def nm(c:List Z7):List Int:=(c.filter fun i=>decide (i.Op=30)).map fun i=>i.A
def VR(n:Nat)(a:Int):Bool:=decide (a<0)||decide (a≥(n:Int))
def KL(n:Nat)(c:List Z7):List Int:=((List.range n).map fun k:Nat=>(k:Int)).filter fun a=>decide (a∈nm c)
theorem JO(i:Z7)(c:List Z7):nm (i::c)=if i.Op=30 then i.A::nm c else nm c:=by
 unfold nm;by_cases h:i.Op=30
 ·rw[List.filter_cons_of_pos (by simpa using h),if_pos h];rfl
 ·rw[List.filter_cons_of_neg (by simpa using h),if_neg h]
theorem Zhr(c:List Z7):(nm c).length≤c.length:=by unfold nm;rw[List.length_map];exact List.length_filter_le _ _
theorem Z6h{zs:List Int}(hs:zs.Pairwise (· ≤ ·)):∀m,m≤zs.length→(Lib.compactUpTo zs.toArray m).Pairwise (· < ·)∧∀a,a∈Lib.compactUpTo zs.toArray m↔a∈zs.take m
 | 0,_=>⟨by simp[Lib.compactUpTo],by simp[Lib.compactUpTo]⟩
 |m+1,hm=>by
  obtain⟨i1,i2⟩:=Z6h hs m (by omega);have hg:∀q,q<zs.length→zs.toArray[q]! = zs[q]! := fun q hq=>by simp[hq]
  have hm0:zs.toArray[m]! = zs[m]:=by simp[show m<zs.length by omega]
  rw[Lib.compactUpTo_succ,hm0];have ht:zs.take (m+1)=zs.take m ++ [zs[m]]:=by rw[List.take_succ_eq_append_getElem (by omega)]
  by_cases hk:Lib.keeps zs.toArray m=true
  ·rw[if_pos hk];refine⟨List.pairwise_append.2 ⟨i1,by simp,fun a ha b hb=>?_⟩,fun a=>by rw[ht,List.mem_append,List.mem_append,i2]⟩;rw[List.mem_singleton]at hb;subst hb;have ha':=(i2 a).1 ha;obtain⟨q,hq,rfl⟩:=List.mem_iff_getElem.1 ha';rw[List.length_take]at hq;rw[List.getElem_take];have hq':q<m:=by omega
   have h1:zs[q]≤zs[m-1]:=by
    by_cases e:q=m-1
    ·subst e;exact Int.le_refl _
    ·exact List.pairwise_iff_getElem.1 hs q (m-1) (by omega) (by omega) (by omega)
   have h2:zs[m-1]≤zs[m]:=List.pairwise_iff_getElem.1 hs (m-1) m (by omega) (by omega) (by omega);have h3:zs[m]≠zs[m-1]:=by
    simp only[Lib.keeps,decide_eq_true_eq]at hk;rcases hk with e|e
    ·omega
    ·rw[hm0]at e;simpa[show m-1<zs.length by omega]using e
   omega
  ·rw[if_neg hk,List.append_nil];refine⟨i1,fun a=>?_⟩;rw[i2,ht,List.mem_append,List.mem_singleton];refine⟨.inl,fun h=>h.elim id fun e=>?_⟩;simp only[Lib.keeps,decide_eq_true_eq]at hk;have hmp:0<m:=by omega
   have e2:zs[m]=zs[m-1]:=by
    have:¬zs.toArray[m]! ≠ zs.toArray[m-1]! := fun h=>hk (.inr h);rw[hm0]at this;simpa[show m-1<zs.length by omega]using this
   subst e;rw[e2];exact List.mem_iff_getElem.2 ⟨m-1,by rw[List.length_take];omega,List.getElem_take⟩
theorem Zjd{a b:List Int}(h1:a.Pairwise (· < ·))(h2:b.Pairwise (· < ·))(h:∀x,x∈a↔x∈b):a=b:=by
 have n1:a.Nodup:=h1.imp fun h=>Int.ne_of_lt h;have n2:b.Nodup:=h2.imp fun h=>Int.ne_of_lt h;exact List.Perm.eq_of_pairwise (le:=fun a b:Int=>a<b) (fun x y _ _ h3 h4=>absurd h3 (by omega)) h1 h2 ((List.perm_ext_iff_of_nodup n1 n2).2 h)
theorem Z82(n:Nat):((List.range n).map fun k:Nat=>(k:Int)).Pairwise (· < ·):=List.pairwise_map.2 (List.pairwise_lt_range.imp fun h=>by omega)
theorem Zdi{n:Nat}{c:List Z7}(hb:(nm c).any (VR n)=false):Lib.compact ((nm c).mergeSort fun x y=>decide (x≤y))=KL n c:=by
 have hs:((nm c).mergeSort fun x y=>decide (x≤y)).Pairwise (· ≤ ·):=by
  have:=List.pairwise_mergeSort (le:=fun x y:Int=>decide (x≤y)) (fun a b c h1 h2=>by simp at *;omega) (fun a b=>by simp;omega) (nm c);exact this.imp fun h=>by simpa using h
 obtain⟨h1,h2⟩:=Z6h hs _ (Nat.le_refl _);refine Zjd h1 ((Z82 n).filter _) fun a=>?_;rw[show Lib.compact ((nm c).mergeSort fun x y=>decide (x≤y))=Lib.compactUpTo _ _ from rfl,h2,List.take_length,List.mem_mergeSort,KL,List.mem_filter,decide_eq_true_eq];refine⟨fun h=>⟨?_,h⟩,fun h=>h.2⟩;have:=List.any_eq_false.1 hb a h;simp only[VR,Bool.or_eq_true,decide_eq_true_eq,not_or]at this;exact List.mem_map.2 ⟨a.toNat,List.mem_range.2 (by omega),by omega⟩
theorem Z76{m:Zc}{k:Int}{x:Zb}{G P:List Zp}{M:List Zb}{mg k0:Int}(hc:x.Code.length≤300):∀(c pre:List Z7) (l:List Int),x.Code=pre++c→l.length≤pre.length →
    Zw (Wi.F (fun s x=>bif s.2 then none else VY.y1 m k s.1.1 s.1.2 x) (([],0),false) G P M mg k0) (.l1 x ((l,0),false) (pre.length:Int)) =
     some (if(nm c).any (VR m.Methods.length)=true then((l++(nm c).takeWhile fun a => !VR m.Methods.length a,2),true)else((l++nm c,0),false))
 | [],pre,l,he,hl=>by
  refine Zf ?_;dsimp only[Wi.F];rw[if_neg (by rw[he];simp)];simp[nm]
 |i::c,pre,l,he,hl=>by
  have hlen:pre.length<x.Code.length:=by rw[he];simp
  have hi:x.Code[pre.length]=i:=by simp[he]
  have hn:=Zhr (i::c);by_cases ho:i.Op=30
  ·by_cases hb:VR m.Methods.length i.A=true
   ·refine Zf ?_;dsimp only[Wi.F];rw[if_pos (by omega),Zy hlen,hi];simp only[bS];rw[if_pos ho];dsimp only[cond_false,VY.y1];have hb2:(decide (i.A<0)||decide (i.A≥(m.Methods.length:Int)))=true:=hb;rw[if_pos hb2];simp only[bS];rw[JO,if_pos ho,if_pos (by simp),if_pos (by simp[hb])];simp[hb]
   ·rw[Ze (t :=.l1 x ((l ++ [i.A],0),false) ((pre ++ [i]).length:Int)) (by
     dsimp only[Wi.F];rw[if_pos (by omega),Zy hlen,hi];simp only[bS];rw[if_pos ho];dsimp only[cond_false,VY.y1];have hb2:¬(decide (i.A<0)||decide (i.A≥(m.Methods.length:Int)))=true:=hb;rw[if_neg hb2,if_pos (by simp;omega)];simp only[bS];rw[if_neg (by simp),Zu pre.length (by omega),List.length_append];rfl)]
    rw[Z76 hc c (pre ++ [i]) (l ++ [i.A]) (by rw[he];simp) (by simp;omega)];have hb':VR m.Methods.length i.A=false:=by simpa using hb
    rw[JO,if_pos ho,List.any_cons,hb',Bool.false_or,List.takeWhile_cons,hb'];simp
  ·rw[Ze (t :=.l1 x ((l,0),false) ((pre ++ [i]).length:Int)) (by
    dsimp only[Wi.F];rw[if_pos (by omega),Zy hlen,hi];simp only[bS];rw[if_neg ho];simp only[bS];rw[if_neg (by simp),Zu pre.length (by omega),List.length_append];rfl)]
   rw[Z76 hc c (pre ++ [i]) l (by rw[he];simp) (by simp;omega),JO,if_neg ho]
def Z0L(n:Nat)(c:List Z7):List Int×Int:=if(nm c).any (VR n)=true then([],2)else(KL n c,0)
theorem Zb5{m:Zc}{k:Nat}(hk:k<m.Methods.length)(hc:m.Methods[k].Code.length≤300):VY.f m k=some (Z0L m.Methods.length m.Methods[k].Code):=by
 unfold VY.f Z1R.f Wi.f;have hn:=Zhr m.Methods[k].Code;rw[if_neg (by simp;omega)];simp only[bS];rw[Ze (t :=.l1 m.Methods[k] (([],0),false) (([]:List Z7).length:Int)) (by
  dsimp only[Wi.F];rw[Zy hk];rfl),Z76 hc m.Methods[k].Code [] [] rfl (by simp)]
 unfold Z0L;by_cases hb:(nm m.Methods[k].Code).any (VR m.Methods.length)=true
 ·rw[if_pos hb,if_pos hb];rfl
 ·rw[if_neg hb,if_neg hb];simp only[bS,List.nil_append];rw[if_neg (by simp),if_pos (by omega),if_pos (by rw[List.length_mergeSort];omega),Zdi (by simpa using hb)]
end Xd
namespace Xd
def YW(m:Zc):List (List Int):=m.Methods.map fun x=>KL m.Methods.length x.Code
def TA(m:Zc):Bool:=m.Methods.any fun x=>(nm x.Code).any (VR m.Methods.length)
structure Fit(m:Zc):Prop where
 M:m.Methods.length≤40
 x:∀x∈m.Methods,x.Code.length≤300
theorem Zdj{m:Zc}(S:Fit m):Ui.f m=some (if TA m=true then([],2)else(YW m,0)):=by
 unfold Ui.f;rw[Ze (t :=.l1 [] ((0:Nat):Int)) rfl];have:∀(c pre:List Zb),m.Methods=pre++c→Zw (Ui.F m) (.l1 (pre.map fun x=>KL m.Methods.length x.Code) (pre.length:Int))=some (if(c.any fun x=>(nm x.Code).any (VR m.Methods.length))=true then([],2)else(YW m,0)):=by
  intro c;induction c with
  |nil=>
   intro pre he;refine Zf ?_;dsimp only[Ui.F];rw[if_neg (by rw[he];simp)];simp[YW,he]
  |cons x c ih=>
   intro pre he;have hlen:pre.length<m.Methods.length:=by rw[he];simp
   have hx:m.Methods[pre.length]=x:=by simp[he]
   have hw:=Zb5 hlen (S.x _ (List.getElem_mem hlen));rw[hx]at hw;have hM:=S.M;by_cases hb:(nm x.Code).any (VR m.Methods.length)=true
   ·rw[List.any_cons,hb,Bool.true_or,if_pos rfl];refine Zf ?_;dsimp only[Ui.F];rw[if_pos (by omega),hw];simp only[bS,Z0L];rw[if_pos hb,if_pos (by simp)]
   ·have hb':(nm x.Code).any (VR m.Methods.length)=false:=by simpa using hb
    rw[List.any_cons,hb',Bool.false_or,←ih (pre ++ [x]) (by rw[he];simp)];refine Ze ?_;dsimp only[Ui.F];rw[if_pos (by omega),hw];simp only[bS,Z0L];rw[if_neg hb,if_neg (by simp),if_pos (by simp;omega),Zu pre.length (by omega),List.length_append,List.map_append];rfl
 exact this _ [] rfl
def ready(W:List (List Int))(out:List Int)(k:Nat):Bool:=decide (¬(k:Int)∈out)&&(W.getD k []).all fun a=>decide (a∈out)
def Z77(W:List (List Int))(out:List Int):Option Nat:=(List.range W.length).find? (ready W out)
def JQ(W:List (List Int)):Nat→List Int→List Int×Int
 | 0,out=>(out,0)
 |f+1,out=>match Z77 W out with
  |none=>([],110)
  |some k=>JQ W f (out ++ [(k:Int)])
theorem Z1c{m:Zc}{k:Nat}(hk:k<m.Methods.length):(YW m).getD k []=KL m.Methods.length m.Methods[k].Code:=by
 simp[YW,List.getD_eq_getElem?_getD,hk]
theorem Z53(n:Nat)(c:List Z7):(KL n c).length≤n:=by unfold KL;exact Nat.le_trans (List.length_filter_le _ _) (by simp)
end Xd
namespace Xd
theorem Zje{l:List (Int×Int)}{k v:Int}:(∀p∈l,p.1≠k)→Z2W l k v=l ++ [(k,v)]:=by
 induction l with
 |nil=>intro _;rfl
 |cons p l ih=>
  intro h;rw[Z2W,if_neg (h p (by simp)),ih fun q hq=>h q (List.mem_cons_of_mem _ hq)];rfl
theorem Z8y{g:Nat→Int}{q:Nat}:∀{S:List Nat},q∈S→Jw (S.map fun a:Nat=>((a:Int),g a)) q=some (g q)
 |s::S,h=>by
  rw[List.map_cons,Jw];by_cases e:s=q
  ·subst e;rw[if_pos rfl]
  ·rw[if_neg (by simp;omega)];exact Z8y ((List.mem_cons.1 h).resolve_left (Ne.symm e))
theorem Zdk{g:Nat→Int}{q:Nat}:∀{S:List Nat},S.Nodup→Z23 (S.map fun a:Nat=>((a:Int),g a)) q=(S.filter fun a=>decide (a≠q)).map fun a:Nat=>((a:Int),g a)
 | [],_=>rfl
 |s::S,h=>by
  rw[List.map_cons,Z23];by_cases e:s=q
  ·subst e;rw[if_pos rfl,List.filter_cons_of_neg (by simp),List.filter_eq_self.2];intro a ha;have:=(List.nodup_cons.1 h).1;simp;intro e;subst e;exact this ha
  ·rw[if_neg (by simp;omega),List.filter_cons_of_pos (by simpa using e),List.map_cons,Zdk (List.nodup_cons.1 h).2]
theorem Zew{g:Nat→Int}{q:Nat}{u:Int}{S:List Nat}:mup (S.map fun a:Nat=>((a:Int),g a)) q u=S.map fun a:Nat=>((a:Int),if a=q then u else g a):=by
 unfold mup;rw[List.map_map];refine List.map_congr_left fun a _=>?_;by_cases e:a=q
 ·subst e;simp
 ·have e2:¬(a:Int)=(q:Int):=by omega
  simp[e,e2]
theorem contains_eq{l:List Int}{n:Int}(hl:l.length≤100):VX.f l n=some (decide (n∈l)):=by
 unfold VX.f;have:∀(c pre:List Int),l=pre++c→∃i:Int,Zw (XJ.F l n) (.l1 (pre.length:Int))=some i∧decide (i≥0)=decide (n∈c):=by
  intro c;induction c with
  |nil=>
   intro pre he;refine⟨-1,Zf ?_,by simp⟩;dsimp only[XJ.F];rw[if_neg (by rw[he];simp)]
  |cons i c ih=>
   intro pre he;have hlen:pre.length<l.length:=by rw[he];simp
   have hi:l[pre.length]=i:=by simp[he]
   by_cases h:n=i
   ·refine⟨(pre.length:Int),Zf ?_,by simp[h]⟩;dsimp only[XJ.F];rw[if_pos (by omega),Zy hlen,hi];simp only[bS];rw[if_pos h]
   ·obtain⟨r,h1,h2⟩:=ih (pre ++ [i]) (by rw[he];simp);refine⟨r,?_,by rw[h2];simp[h]⟩;rw[←h1];refine Ze ?_;dsimp only[XJ.F];rw[if_pos (by omega),Zy hlen,hi];simp only[bS];rw[if_neg h,Zu pre.length (by omega),List.length_append];rfl
 obtain⟨i,h1,h2⟩:=this l [] rfl;unfold XJ.f;rw[Ze (t :=.l1 ((([]:List Int).length:Nat):Int)) rfl,h1];simp only[bS];rw[h2]
def cnt(W:List (List Int))(out:List Int)(k:Nat):Nat:=((W.getD k []).filter fun a=>decide (¬a∈out)).length
def rest(W:List (List Int))(out:List Int):List Nat:=(List.range W.length).filter fun k=>decide (¬(k:Int)∈out)
def Z0l(W:List (List Int))(out:List Int):List (Int×Int):=(rest W out).map fun k:Nat=>((k:Int),(cnt W out k:Int))
theorem Z2K(W:List (List Int))(out:List Int):(rest W out).Nodup:=List.nodup_range.filter _
theorem Z8z{W:List (List Int)}{out:List Int}{k:Nat}:k∈rest W out↔k<W.length∧¬(k:Int)∈out:=by unfold rest;rw[List.mem_filter,List.mem_range,decide_eq_true_eq]
theorem Zjf(W:List (List Int))(out:List Int):(rest W out).length≤W.length:=Nat.le_trans (List.length_filter_le _ _) (by simp)
theorem ZoA{g:Nat→Int}{S:List Nat}(h:S.Nodup)(hl:∀a∈S,a<100)(hs:S.length≤100):Z3p (S.map fun a:Nat=>((a:Int),g a))=true:=by
 simp only[Z3p,Bool.and_eq_true,decide_eq_true_eq,List.all_eq_true];refine⟨⟨?_,?_⟩,by rw[List.length_map];omega⟩
 ·rw[List.map_map];exact h.map _ fun a b hab e=>hab (by simp only[Function.comp]at e;omega)
 ·intro p hp;obtain⟨a,ha,rfl⟩:=List.mem_map.1 hp;have:=hl a ha;simp;omega
theorem nodup_keys{g:Nat→Int}{S:List Nat}(h:S.Nodup):((S.map fun a:Nat=>((a:Int),g a)).map fun p=>p.1).Nodup:=by
 rw[List.map_map];exact h.map _ fun a b hab e=>hab (by simp only[Function.comp]at e;omega)
theorem Z5d(W:List (List Int))(out:List Int):KC (Z0l W out)=(rest W out).map fun k:Nat=>(k:Int):=by
 unfold KC Z0l;rw[List.map_map];have:(rest W out).Pairwise (· < ·):=List.pairwise_lt_range.filter _;refine List.mergeSort_of_pairwise ?_;refine List.pairwise_map.2 (this.imp fun h=>?_);simp;omega
theorem Zjg{W:List (List Int)}{out:List Int}{k:Nat}:cnt W out k=0↔((W.getD k []).all fun a=>decide (a∈out))=true:=by
 unfold cnt;rw[List.length_eq_zero_iff,List.filter_eq_nil_iff,List.all_eq_true];exact⟨fun h a ha=>by simpa using h a ha,fun h a ha=>by simpa using h a ha⟩
theorem Zhs(W:List (List Int))(out:List Int):Z77 W out=(rest W out).find? fun k=>decide (cnt W out k=0):=by
 unfold Z77 rest;rw[List.find?_filter];congr 1;funext k;unfold ready;rw[Bool.eq_iff_iff];simp only[Bool.and_eq_true,decide_eq_true_eq,Zjg]
theorem Zjh{W:List (List Int)}{out:List Int}{k q:Nat}(hn:(W.getD q []).Nodup)(hk:¬(k:Int)∈out):cnt W (out ++ [(k:Int)]) q=if(k:Int)∈W.getD q []then cnt W out q-1 else cnt W out q:=by
 unfold cnt;generalize W.getD q []=l at hn
 have e:∀l:List Int,l.Nodup→(l.filter fun a=>decide (¬a∈out ++ [(k:Int)])).length=if(k:Int)∈l then(l.filter fun a=>decide (¬a∈out)).length-1 else(l.filter fun a=>decide (¬a∈out)).length:=by
  intro l;induction l with
  |nil=>intro _;simp
  |cons a l ih=>
   intro hn;obtain⟨h1,h2⟩:=List.nodup_cons.1 hn;have ih:=ih h2;by_cases ha:a=(k:Int)
   ·subst ha;rw[if_neg h1]at ih;rw[List.filter_cons_of_neg (by simp),ih,if_pos (by simp),List.filter_cons_of_pos (by simpa using hk),List.length_cons,Nat.add_sub_cancel]
   ·have hm:((k:Int)∈a::l)↔(k:Int)∈l:=by simp[Ne.symm ha]
    by_cases hao:a∈out
    ·rw[List.filter_cons_of_neg (by simp[hao]),List.filter_cons_of_neg (by simpa using hao),ih];simp only[hm]
    ·rw[List.filter_cons_of_pos (by simp[hao,ha]),List.filter_cons_of_pos (by simpa using hao),List.length_cons,ih,List.length_cons];simp only[hm];by_cases hkl:(k:Int)∈l
     ·rw[if_pos hkl,if_pos hkl];have:0<(l.filter fun a=>decide (¬a∈out)).length:=List.length_pos_of_mem (List.mem_filter.2 ⟨hkl,by simpa using hk⟩);omega
     ·rw[if_neg hkl,if_neg hkl]
 exact e l hn
theorem Zb6(W:List (List Int))(out:List Int)(k:Nat):rest W (out ++ [(k:Int)])=(rest W out).filter fun a=>decide (a≠k):=by
 unfold rest;rw[List.filter_filter];refine List.filter_congr fun a _=>?_;rw[Bool.eq_iff_iff];simp only[Bool.and_eq_true,decide_eq_true_eq,List.mem_append,List.mem_singleton,not_or];exact⟨fun h=>⟨by have:=h.2;omega,h.1⟩,fun h=>⟨h.2,by have:=h.1;omega⟩⟩
theorem Zht{m:Zc}{W:List (List Int)}{out:List Int}{k:Nat}(hW:∀q,(W.getD q []).Nodup)(hWl:∀q,(W.getD q []).length≤40)(hk:¬(k:Int)∈out)(hout:(out.length+1)*8≤140737488355328):∀(f:Nat) (R:List Nat),R.length=f→R.Nodup→(∀q∈R,q∈rest W (out ++ [(k:Int)]))→∀r,
    Z2p (Yp.F m) (.l2 (W,0) (Z0l W (out ++ [(k:Int)])) (out ++ [(k:Int)]))=some r →
    Z2p (Yp.F m) (.l4 (W,0) out (k:Int) ((rest W (out ++ [(k:Int)])).map fun q:Nat=>((q:Int),if q∈R then(cnt W out q:Int)else(cnt W (out ++ [(k:Int)]) q:Int))) (R.map fun q:Nat=>((q:Int),(cnt W out q:Int))))=some r:=by
 intro f;induction f with
 |zero=>
  intro R hR _ _ r hr;obtain rfl:=List.eq_nil_of_length_eq_zero hR;refine JV ?_ hr;dsimp only[Yp.F];rw[if_pos (by simp),if_pos (by simpa using hout)];simp[Z0l]
 |succ f ih=>
  intro R hR hn hsub r hr;have hne:R≠[]:=fun e=>by rw[e]at hR;cases hR
  generalize hl:(R.map fun q:Nat=>((q:Int),(cnt W out q:Int)))=l;have ZoB:l≠[]:=fun e=>hne (by rw[e]at hl;simpa using hl);refine Zio (l:=(picks l).map fun z =>.p5 (W,0) out (k:Int) ((rest W (out ++ [(k:Int)])).map fun q:Nat=>((q:Int),if q∈R then(cnt W out q:Int)else(cnt W (out ++ [(k:Int)]) q:Int))) z.1.1 z.1.2 z.2) ?_ (by simpa using Zir ZoB) fun t ht=>?_
  ·dsimp only[Yp.F];rw[if_neg (by simpa using ZoB)]
  ·obtain⟨⟨⟨z1,z2⟩,z3⟩,hz,rfl⟩:=List.mem_map.1 ht;obtain⟨j,h1,h2⟩:=Ziq hz;dsimp only at h1 h2;rw[←hl,List.getElem?_map,Option.map_eq_some_iff]at h1;obtain⟨q,h3,h4⟩:=h1;obtain⟨rfl,rfl⟩:(q:Int)=z1∧(cnt W out q:Int)=z2:=by simpa using h4
   have hjl:j<R.length:=(List.getElem?_eq_some_iff.1 h3).1;have hqR:q∈R:=List.mem_of_getElem? h3;have hq:=hsub q hqR;obtain⟨hq1,hq2⟩:=Z8z.1 hq;have hmem:∀a,a∈R.eraseIdx j↔a∈R∧a≠q:=by
    intro a;rw[List.mem_eraseIdx_iff_getElem];have hRj:R[j]=q:=by rw[List.getElem?_eq_getElem hjl]at h3;simpa using h3
    constructor
    ·rintro⟨i,hi,hij,rfl⟩;exact⟨List.getElem_mem hi,fun e=>hij ((List.getElem_inj hn).1 (e.trans hRj.symm))⟩
    ·rintro⟨ha,hne⟩;obtain⟨i,hi,rfl⟩:=List.mem_iff_getElem.1 ha;exact⟨i,hi,fun e=>hne (by subst e;exact hRj),rfl⟩
   have hz3:z3=(R.eraseIdx j).map fun q:Nat=>((q:Int),(cnt W out q:Int)):=by rw[h2,←hl,J6]
   have IH:=ih (R.eraseIdx j) (by rw[List.length_eraseIdx_of_lt hjl];omega) (hn.eraseIdx j) (fun a ha=>hsub a ((hmem a).1 ha).1) r hr;refine JV ?_ IH;dsimp only[Yp.F];have hel:elt W (q:Int)=some (W.getD q []):=by rw[Zy hq1];simp[List.getD_eq_getElem?_getD,hq1]
   have hc:cnt W out q≤40:=Nat.le_trans (List.length_filter_le _ _) (hWl q);rw[hel];simp only[bS];rw[contains_eq (by have:=hWl q;omega)];simp only[bS];have hmore:=Zjh (hW q) hk;by_cases hkq:(k:Int)∈W.getD q []
   ·rw[if_pos hkq]at hmore;have hpos:0<cnt W out q:=List.length_pos_of_mem (List.mem_filter.2 ⟨hkq,by simpa using hk⟩);have hg:Jw ((rest W (out ++ [(k:Int)])).map fun q:Nat=>((q:Int),if q∈R then(cnt W out q:Int)else(cnt W (out ++ [(k:Int)]) q:Int))) (q:Int)=some (cnt W out q:Int):=by
     rw[Z8y (g:=fun q=>if q∈R then(cnt W out q:Int)else(cnt W (out ++ [(k:Int)]) q:Int)) hq,if_pos hqR]
    rw[if_pos (by simpa using hkq),hg,if_pos ⟨nodup_keys (Z2K _ _),rfl⟩,Option.getD_some,ZW (by omega) (by omega),Zew,hz3,Zew];congr 4
    ·refine List.map_congr_left fun a _=>?_;by_cases e:a=q
     ·subst e;rw[if_pos rfl,if_neg (fun h=>((hmem a).1 h).2 rfl),hmore];congr 1;omega
     ·rw[if_neg e];simp only[hmem,e,ne_eq,not_false_eq_true,and_true]
    ·refine List.map_congr_left fun a ha=>?_;rw[if_neg ((hmem a).1 ha).2]
   ·rw[if_neg hkq]at hmore;rw[if_neg (by simpa using hkq),hz3];congr 4;refine List.map_congr_left fun a _=>?_;by_cases e:a=q
    ·subst e;rw[if_pos hqR,if_neg (fun h=>((hmem a).1 h).2 rfl),hmore]
    ·simp only[hmem,e,ne_eq,not_false_eq_true,and_true]
theorem Zhu{m:Zc}{W:List (List Int)}(hW:∀q,(W.getD q []).Nodup)(hWl:∀q,(W.getD q []).length≤40)(hl:W.length≤40):∀(f:Nat) (out:List Int),out.length+f≤40→(rest W out).length=f→Z2p (Yp.F m) (.l2 (W,0) (Z0l W out) out)=some (JQ W f out):=by
 intro f;induction f with
 |zero=>
  intro out ho hr;refine Z8b ?_;dsimp only[Yp.F];rw[if_neg (by unfold Z0l;rw[List.length_map];omega)];rfl
 |succ f ih=>
  intro out ho hr;have hlt:∀a∈rest W out,a<100:=fun a ha=>by have:=(Z8z.1 ha).1;omega
  have hrl:=Zjf W out;unfold JQ;rw[Zhs];have scan:∀(c pre:List Nat),rest W out=pre++c→Z2p (Yp.F m) (.l3 (W,0) (Z0l W out) out (pre.length:Int))=some (match c.find? (fun k=>decide (cnt W out k=0))with|none=>([],110)|some k=>JQ W f (out ++ [(k:Int)])):=by
   intro c;induction c with
   |nil=>
    intro pre he;refine Z8b ?_;dsimp only[Yp.F];rw[Z5d,List.length_map,if_neg (by rw[he];simp)];unfold Yp.j1;rw[if_pos (by omega)];rfl
   |cons k c ihc=>
    intro pre he;have hlen:pre.length<(rest W out).length:=by rw[he];simp
    have hi:(rest W out)[pre.length]=k:=by simp[he]
    have hkm:k∈rest W out:=by rw[he];simp
    obtain⟨hk1,hk2⟩:=Z8z.1 hkm;have hel:elt ((rest W out).map fun k:Nat=>(k:Int)) (pre.length:Int)=some (k:Int):=by
     rw[Zy (by rw[List.length_map];exact hlen),List.getElem_map,hi]
    have hg:Jw (Z0l W out) (k:Int)=some (cnt W out k:Int):=Z8y (g:=fun k=>(cnt W out k:Int)) hkm;by_cases hc:cnt W out k=0
    ·rw[List.find?_cons_of_pos (by simpa using hc)];have hlr:(rest W (out ++ [(k:Int)])).length=f:=by
      rw[Zb6];have h2:(rest W out).length=((rest W out).filter fun a=>decide (a≠k)).length+1:=by
       have e:∀l:List Nat,l.Nodup→k∈l→l.length=(l.filter fun a=>decide (a≠k)).length+1:=by
        intro l;induction l with
        |nil=>intro _ h;cases h
        |cons a l ih2=>
         intro hn hm;obtain⟨n1,n2⟩:=List.nodup_cons.1 hn;by_cases ea:a=k
         ·subst ea;rw[List.filter_cons_of_neg (by simp),List.filter_eq_self.2,List.length_cons];intro b hb;simp;intro e;subst e;exact n1 hb
         ·rw[List.filter_cons_of_pos (by simpa using ea),List.length_cons,List.length_cons,ih2 n2 ((List.mem_cons.1 hm).resolve_left (Ne.symm ea))]
       exact e _ (Z2K W out) hkm
      omega
     have IH:=ih (out ++ [(k:Int)]) (by simp;omega) hlr;refine JV (t :=.l4 (W,0) out (k:Int) ((rest W (out ++ [(k:Int)])).map fun q:Nat=>((q:Int),if q∈rest W (out ++ [(k:Int)])then(cnt W out q:Int)else(cnt W (out ++ [(k:Int)]) q:Int))) ((rest W (out ++ [(k:Int)])).map fun q:Nat=>((q:Int),(cnt W out q:Int)))) ?_ (Zht hW hWl hk2 (by omega) _ _ rfl (Z2K _ _) (fun q h=>h) _ IH);dsimp only[Yp.F];rw[Z5d,List.length_map,if_pos (by omega),hel];simp only[bS];rw[hg,Option.getD_some,if_pos (by omega)];unfold Yp.j1 Z0l;rw[if_neg (by omega),Zdk (g:=fun k=>(cnt W out k:Int)) (Z2K W out),←Zb6];congr 4;refine List.map_congr_left fun a ha=>?_;rw[if_pos ha]
    ·rw[List.find?_cons_of_neg (by simpa using hc),←ihc (pre ++ [k]) (by rw[he];simp)];have:Z2p (Yp.F m) (.l3 (W,0) (Z0l W out) out ((pre ++ [k]).length:Int))=some _:=ihc (pre ++ [k]) (by rw[he];simp);rw[this];refine JV ?_ this;dsimp only[Yp.F];rw[Z5d,List.length_map,if_pos (by omega),hel];simp only[bS];rw[hg,Option.getD_some,if_neg (by omega),Zu pre.length (by omega),List.length_append];rfl
  refine JV ?_ (scan (rest W out) [] rfl);dsimp only[Yp.F];have hok:Z3p (Z0l W out)=true:=ZoA (g:=fun k=>(cnt W out k:Int)) (Z2K W out) hlt (by omega);rw[if_pos (by unfold Z0l;rw[List.length_map];omega),if_pos hok];rfl
theorem ZdG(n:Nat)(c:List Z7):(KL n c).Nodup:=((Z82 n).imp fun h=>Int.ne_of_lt h).filter _
theorem Z69{m:Zc}(S:Fit m):Yp.f m=some (if TA m=true then([],2)else JQ (YW m) m.Methods.length []):=by
 have hM:=S.M;have hWl:(YW m).length=m.Methods.length:=by simp[YW]
 have hat:∀q,(YW m).getD q []=[]∨∃c,(YW m).getD q []=KL m.Methods.length c:=by
  intro q;by_cases hq:q<m.Methods.length
  ·exact .inr ⟨_,Z1c hq⟩
  ·exact .inl (by simp[List.getD_eq_getElem?_getD,List.getElem?_eq_none (show(YW m).length≤q by omega)])
 unfold Yp.f;by_cases hb:TA m=true
 ·rw[if_pos hb];refine Z8b ?_;dsimp only[Yp.F];rw[Zdj S,if_pos hb];simp only[bS];rw[if_pos (by simp)]
 ·rw[if_neg hb];refine JV (t :=.l1 (YW m,0) ((List.range 0).map fun k:Nat=>((k:Int),(((YW m).getD k []).length:Int))) ((0:Nat):Int)) (by
   dsimp only[Yp.F];rw[Zdj S,if_neg hb];simp only[bS];rw[if_neg (by simp)];rfl) ?_
  have lay:∀(j k:Nat),k+j=m.Methods.length→Z2p (Yp.F m) (.l1 (YW m,0) ((List.range k).map fun k:Nat=>((k:Int),(((YW m).getD k []).length:Int))) (k:Int))=some (JQ (YW m) m.Methods.length []):=by
   intro j;induction j with
   |zero=>
    intro k hk;obtain rfl:k=m.Methods.length:=by omega
    have hr:rest (YW m) []=List.range m.Methods.length:=by unfold rest;rw[hWl];exact List.filter_eq_self.2 fun a _=>by simp
    have hm:Z0l (YW m) []=(List.range m.Methods.length).map fun k:Nat=>((k:Int),(((YW m).getD k []).length:Int)):=by
     unfold Z0l;rw[hr];refine List.map_congr_left fun a _=>?_;unfold cnt;rw[List.filter_eq_self.2 fun a _=>by simp]
    refine JV (t :=.l2 (YW m,0) (Z0l (YW m) []) []) (by
     dsimp only[Yp.F];rw[if_neg (by omega),hm]) (Zhu (fun q=>?_) (fun q=>?_) (by omega) _ _ (by simp;omega) (by rw[hr,List.length_range]))
    ·rcases hat q with e|⟨c,e⟩
     ·rw[e];exact List.nodup_nil
     ·rw[e];exact ZdG _ _
    ·rcases hat q with e|⟨c,e⟩
     ·rw[e];simp
     ·rw[e];exact Nat.le_trans (Z53 _ _) hM
   |succ j ih=>
    intro k hk;refine JV ?_ (ih (k+1) (by omega));have hkl:k<(YW m).length:=by omega
    dsimp only[Yp.F];rw[if_pos (by omega),Zy hkl];simp only[bS];rw[Zje,Zu k (by omega),List.range_succ,List.map_append]
    ·congr 4;simp[List.getD_eq_getElem?_getD,hkl]
    ·intro p hp;obtain⟨a,ha,rfl⟩:=List.mem_map.1 hp;have:=List.mem_range.1 ha;simp;omega
  exact lay m.Methods.length 0 (by omega)
end Xd
namespace XG
open Zz Y8 Xd
def In(x:Int):Prop := -9223372036854775808≤x∧x<9223372036854775808
theorem ZbL{x:Int}(h:In x):IntKind.i64.wrap x=x:=ZW h.1 h.2
theorem Z0B(x:Int):In (IntKind.i64.wrap x):=by
 unfold In;simp only[IntKind.wrap,IntKind.bits,IntKind.signed]
 first|omega|(split<;>omega)|(simp;omega)
theorem ZsR(l:List Z7)(R:List (Nat×Nat))(a:Nat):In (tm l R a):=by
 unfold tm;have:∀(R:List (Nat×Nat)) (n:Int),In n→In (R.foldl (fun n x=>if x.1<a∧a≤x.2 then IntKind.i64.wrap (n*turns l x.1)else n) n):=by
  intro R;induction R with
  |nil=>intro n h;exact h
  |cons x R ih=>
   intro n h;rw[List.foldl_cons];refine ih _ ?_;split
   ·exact Z0B _
   ·exact h
 exact this R 1 ⟨by omega,by omega⟩
theorem Zex(l:List Z7):(tms l).length=l.length:=by simp[tms]
theorem Zhv(l:List Z7)(i:Nat)(h:i<(tms l).length):In (tms l)[i]:=by
 have:(tms l)[i]=tm l (RL (KK l) l.length) i:=by simp[tms]
 rw[this];exact ZsR _ _ _
theorem Zji{rows:List Zi}(h:∀r∈rows,r.Kinds.length≤400):∀k,H rows k≤400
 | 0=>by unfold H;omega
 |k+1=>by
  have i:=Zji h k;have:(g rows k).Kinds.length≤400:=by
   by_cases hk:k<rows.length
   ·rw[ZfN hk];exact h _ (List.getElem_mem hk)
   ·unfold g;simp[List.getElem?_eq_none (show rows.length≤k by omega),R0,Zi.zero]
  unfold H;split<;>omega
end XG
namespace XG
open Zz Y8 Xd
theorem rows_ok{m:Zc}{k:Nat}(hm:XK m)(S:Small m)(hk:k<m.Methods.length):∃rows e,YF.f m k=some (rows,e) ∧
    (e=0→rows.length=m.Methods[k].Code.length∧Known m.Methods[k].Code∧UK m.Methods[k].Code∧∀r∈rows,r.Kinds.length≤400):=by
 have h0:(0:Int)≤(k:Int):=by omega
 have h1:(k:Int)<m.Methods.length:=by omega
 have hx:=Zy hk;generalize hxe:m.Methods[k]=x at hx
 have hxm:x∈m.Methods:=by rw[←hxe];exact List.getElem_mem hk
 have hs:=S.x x hxm;have hwx:∀i∈x.Code,Y5 i:=((hm.2.2.1.2 x hxm).2.2.2.2.2.2.2).2;obtain⟨e1,e2,e3⟩:=Z75 (m:=m) (k:=k) (x:=x) h0 h1 hx (by omega) hwx (by omega);by_cases hkn:Known x.Code
 ·by_cases hf:UK x.Code
  ·by_cases hth:∃i∈x.Code,there (Yw m x) i=false
   ·exact⟨[],100,e3 hkn hf hth,by omega⟩
   ·have W:Well (Yw m x) x.Code:=⟨hkn,hf,hwx,fun i hi=>by
     cases ht:there (Yw m x) i
     ·exact absurd ⟨i,hi,ht⟩ hth
     ·rfl,fun y hy=>by have:=S.x y hy;omega⟩
    exact⟨_,_,Z74 h0 h1 hx W (by omega),fun he=>⟨(Z52 W he).len,hkn,hf,(Z52 W he).sz⟩⟩
  ·exact⟨[],90,e2 hkn hf,by omega⟩
 ·exact⟨[],40,e1 hkn,by omega⟩
def Zkj(x:Zb)(r:Zi)(al:Nat)(oc:ZM):Int:=IntKind.i64.wrap (IntKind.i64.wrap (IntKind.i64.wrap (IntKind.i64.wrap ((x.Args.length:Int)+(x.Zk.length:Int))+(r.Kinds.length:Int))-(al:Int))+oc.Stack)
def ZfP(al:List Nat)(kn:List ZM)(x:Zb)(t:Int)(r:Zi)(o:Z7)(s:ZM):ZM:=
 if o.Op=30 then ⟨IntKind.i64.wrap (IntKind.i64.wrap (s.Fuel+t)+IntKind.i64.wrap (t*(kn.getD o.A.toNat ZM.zero).Fuel)),
  if r.Reached=true∧Zkj x r (al.getD o.A.toNat 0) (kn.getD o.A.toNat ZM.zero)>s.Stack then Zkj x r (al.getD o.A.toNat 0) (kn.getD o.A.toNat ZM.zero)else s.Stack,
  IntKind.i64.wrap ((if o.Op=22 then IntKind.i64.wrap (s.Heap+IntKind.i64.wrap (t*o.A))else s.Heap)+IntKind.i64.wrap (t*(kn.getD o.A.toNat ZM.zero).Heap))⟩
 else ⟨IntKind.i64.wrap (s.Fuel+t),s.Stack,if o.Op=22 then IntKind.i64.wrap (s.Heap+IntKind.i64.wrap (t*o.A))else s.Heap⟩
def ZfQ(al:List Nat)(kn:List ZM)(x:Zb)(rows:List Zi)(ts:List Int):List Z7→Nat→ZM→ZM
 | [],_,s=>s
 |o::c,i,s=>ZfQ al kn x rows ts c (i+1) (ZfP al kn x (ts.getD i 0) (g rows i) o s)
def Zjj(al:List Nat)(kn:List ZM)(x:Zb)(rows:List Zi):ZM:=ZfQ al kn x rows (tms x.Code) x.Code 0 ⟨0,(x.Args.length:Int)+(x.Zk.length:Int)+H rows rows.length,0⟩
def Z9v(m:Zc):List Nat:=m.Methods.map fun x=>x.Args.length
theorem Zjk{m:Zc}{k:Nat}{kn:List ZM}(hm:XK m)(S:Small m)(hk:k<m.Methods.length)(hb:(nm m.Methods[k].Code).any (VR m.Methods.length)=false)(hkn:kn.length=m.Methods.length)
    {rows:List Zi} (hr:YF.f m k=some (rows,0)):YQ.f m k kn=some (Zjj (Z9v m) kn m.Methods[k] rows):=by
 obtain⟨rows',e',g1,g3⟩:=rows_ok hm S hk;rw[hr]at g1;obtain⟨rfl,rfl⟩:rows=rows'∧(0:Int)=e':=by simpa using g1
 obtain⟨hlen,hK,hF,hsz⟩:=g3 rfl;have hx:=Zy hk;have hxm:=List.getElem_mem hk;generalize m.Methods[k]=x at hx hxm hb hlen hK hF
 have hs:=S.x x hxm;have hwx:∀i∈x.Code,Y5 i:=((hm.2.2.1.2 x hxm).2.2.2.2.2.2.2).2;have ZsS:x.Code.length≤300:=hs.2.2;have t1:=(Z68 (l:=x.Code) (by omega) hwx).2.1 hK hF;have hH0:=Z8x rows rows.length;have hH1:=Zji hsz rows.length;have hn0:IntKind.i64.wrap (IntKind.i64.wrap ((x.Args.length:Int)+(x.Zk.length:Int))+H rows rows.length)=(x.Args.length:Int)+(x.Zk.length:Int)+H rows rows.length:=by
  rw[ZW (x:=(x.Args.length:Int)+(x.Zk.length:Int)) (by omega) (by omega),ZW (by omega) (by omega)]
 have main:∀(c pre:List Z7),x.Code=pre++c→(nm c).any (VR m.Methods.length)=false→∀f s h:Int,In f→In h→Zw (YQ.F m k kn) (.l1 x (tms x.Code,0) (pre.length:Int) f s h x.Result x.Reads x.Fuel x.Stack x.Heap rows)=some (ZfQ (Z9v m) kn x rows (tms x.Code) c pre.length ⟨f,s,h⟩):=by
  intro c;induction c with
  |nil=>
   intro pre he _ f s h _ _;refine Zf ?_;dsimp only[YQ.F];rw[if_neg (by rw[he];simp)];rfl
  |cons i c ih=>
   intro pre he hb f s h hf hh;have hpl:pre.length<x.Code.length:=by rw[he];simp
   have hi:x.Code[pre.length]=i:=by simp[he]
   have htl:pre.length<(tms x.Code).length:=by rw[Zex];exact hpl
   have ht:=Zy htl;have hti:=Zhv x.Code pre.length htl;have htd:(tms x.Code).getD pre.length 0=(tms x.Code)[pre.length]:=by simp[List.getD_eq_getElem?_getD,htl]
   generalize (tms x.Code)[pre.length]=t at ht hti htd
   have hrl:pre.length<rows.length:=by omega
   have hrw:=Zy hrl;have hgr:=ZfN hrl;generalize rows[pre.length]=rw_ at hrw hgr
   have hnx:((pre ++ [i]).length:Int)=IntKind.i64.wrap ((pre.length:Int)+1):=by rw[Zu pre.length (by omega),List.length_append];rfl
   have hheap:∀v:Int,v=(if i.Op=22 then i.A else 0)→IntKind.i64.wrap (h+IntKind.i64.wrap (t*v))=if i.Op=22 then IntKind.i64.wrap (h+IntKind.i64.wrap (t*i.A))else h:=by
    intro v hv;by_cases h22:i.Op=22
    ·rw[if_pos h22]at hv ⊢;rw[hv]
    ·rw[if_neg h22]at hv ⊢;rw[hv,Int.mul_zero,show IntKind.i64.wrap 0=0 from rfl,Int.add_zero,ZbL hh]
   have hfuel:IntKind.i64.wrap (f+IntKind.i64.wrap (t*1))=IntKind.i64.wrap (f+t):=by rw[Int.mul_one,ZbL hti]
   have Z79:∀q,YQ.j2 m k kn x (tms x.Code,0) (pre.length:Int) f s h x.Result x.Reads x.Fuel x.Stack x.Heap rows i (if i.Op=22 then i.A else 0)=some (.inl q)→Zw (YQ.F m k kn) (.l1 x (tms x.Code,0) (pre.length:Int) f s h x.Result x.Reads x.Fuel x.Stack x.Heap rows)=Zw (YQ.F m k kn) q:=by
    intro q hq;refine Ze ?_;dsimp only[YQ.F];rw[if_pos (by omega),Zy hpl,hi];simp only[bS];by_cases h22:i.Op=22
    ·rw[if_pos h22]at hq ⊢;exact hq
    ·rw[if_neg h22]at hq ⊢;exact hq
   rw[ZfQ,htd,hgr,←List.length_singleton (a:=i),←List.length_append];generalize hh':(if i.Op=22 then IntKind.i64.wrap (h+IntKind.i64.wrap (t*i.A))else h)=h' at hheap
   have Zjl:In h':=by rw[←hh'];split;exact Z0B _;exact hh
   by_cases JN:i.Op=30
   ·rw[JO,if_pos JN,List.any_cons,Bool.or_eq_false_iff]at hb;have hA:=hb.1;simp only[VR,Bool.or_eq_false_iff,decide_eq_false_iff_not]at hA;have hA1:i.A.toNat<m.Methods.length:=by omega
    have e1:=Uu (xs:=m.Methods) (by omega) hA1;have e2:=Uu (xs:=kn) (by omega) (by omega:i.A.toNat<kn.length);have d1:(Z9v m).getD i.A.toNat 0=m.Methods[i.A.toNat].Args.length:=by simp[Z9v,List.getD_eq_getElem?_getD,hA1]
    have d2:kn.getD i.A.toNat ZM.zero=kn[i.A.toNat]:=by simp[List.getD_eq_getElem?_getD,(by omega:i.A.toNat<kn.length)]
    rw[ZfP,if_pos JN,d1,d2];dsimp only;rw[hh'];generalize m.Methods[i.A.toNat]=om at e1
    generalize kn[i.A.toNat]=oc at e2
    rw[←ih (pre ++ [i]) (by rw[he];simp) hb.2 _ _ _ (Z0B _) (Z0B _)];refine Z79 _ ?_;unfold YQ.j2 WW.f;rw[ht];simp only[bS];rw[if_pos JN,e1];simp only[bS];rw[e2];simp only[bS];unfold UY.f WW.f TT.f;simp only[bS];rw[hrw];simp only[bS];rw[hfuel,hheap _ rfl];unfold YQ.j1;rw[hnx];by_cases hre:rw_.Reached=true
    ·rw[if_pos hre];simp only[bS,hre,true_and];rfl
    ·rw[if_neg hre];simp only[bS];rw[if_neg (fun h=>hre h.1)]
   ·rw[JO,if_neg JN]at hb;rw[ZfP,if_neg JN];dsimp only;rw[hh',←ih (pre ++ [i]) (by rw[he];simp) hb _ _ _ (Z0B _) Zjl];refine Z79 _ ?_;unfold YQ.j2 WW.f;rw[ht];simp only[bS];rw[if_neg JN,hfuel,hheap _ rfl];unfold YQ.j1;rw[hnx]
 unfold YQ.f Zjj;refine Eq.trans ?_ (main x.Code [] rfl hb 0 ((x.Args.length:Int)+(x.Zk.length:Int)+H rows rows.length) 0 ⟨by omega,by omega⟩ ⟨by omega,by omega⟩);refine Ze ?_;dsimp only[YQ.F];rw[hx];simp only[bS];rw[hr];simp only[bS];rw[t1];simp only[bS];rw[Zb4 (by omega)];simp only[bS];unfold TS.f;simp only[bS];rw[hn0];congr 2;by_cases h0:(x.Args.length:Int)+(x.Zk.length:Int)+H rows rows.length>0
 ·rw[if_pos h0];rfl
 ·rw[if_neg h0,show(x.Args.length:Int)+(x.Zk.length:Int)+H rows rows.length=0 by omega];rfl
end XG
namespace XG
open Zz Y8 Xd
theorem ZaD{W:List (List Int)}:∀(f:Nat) (out:List Int),(∀a∈out,0≤a∧a<W.length)→(JQ W f out).2=0→(JQ W f out).1.length=out.length+f∧∀a∈(JQ W f out).1,0≤a∧a<W.length
 | 0,out,h,_=>⟨rfl,h⟩
 |f+1,out,h,h0=>by
  unfold JQ at h0 ⊢;cases hn:Z77 W out with
  |none=>rw[hn]at h0;simp at h0
  |some k=>
   rw[hn]at h0;have hk:k<W.length:=List.mem_range.1 (List.mem_of_find?_eq_some hn);obtain⟨i1,i2⟩:=ZaD f (out ++ [(k:Int)]) (fun a ha=>by
    rcases List.mem_append.1 ha with h1|h1
    ·exact h a h1
    ·rw[List.mem_singleton]at h1;subst h1;omega) h0
   refine⟨?_,i2⟩;dsimp only;rw[i1];simp;omega
end XG
namespace XG
open Zz Y8 Xd
def Zdl(c:ZM)(x:Zb):Bool:=decide (((0≤c.Fuel∧c.Fuel≤x.Fuel∧c.Fuel≤1048576)∧0≤c.Stack∧c.Stack≤x.Stack∧c.Stack≤256)∧0≤c.Heap∧c.Heap≤x.Heap∧c.Heap≤1024)
theorem Zdm(b y:Bool):(if b=true then some y else some false)=some (b&&y):=by cases b<;>rfl
theorem Zhw(c:ZM)(x:Zb):Z00.f c x=some (Zdl c x):=by
 unfold Z00.f Tg.f Zdl;simp only[bS,Zdm];congr 1;rw[Bool.eq_iff_iff];simp;omega
noncomputable def VO(m:Zc)(k:Nat):List Zi×Int:=(YF.f m k).getD ([],0)
noncomputable def Z8A(m:Zc):Int:=(((List.range m.Methods.length).map fun k=>(VO m k).2).find? fun e=>decide (e≠0)).getD 0
def Z1x(m:Zc)(k:Nat):Zb:=m.Methods.getD k Zb.zero
noncomputable def Z7a(m:Zc)(kn:List ZM)(k:Nat):ZM:=Zjj (Z9v m) kn (Z1x m k) (VO m k).1
def Z4K(one:List ZM→Nat→ZM)(fit:Nat→ZM→Bool):List Int→List ZM→Option (List ZM)
 | [],l=>some l
 |a::o,l=>if fit a.toNat (one l a.toNat)=true then Z4K one fit o (l.set a.toNat (one l a.toNat))else none
noncomputable def Kc(m:Zc):List ZM×Int:=
 if TA m=true then([],2)else
 if(JQ (YW m) m.Methods.length []).2≠0 then([],(JQ (YW m) m.Methods.length []).2)else
 if Z8A m≠0 then([],Z8A m)else
 match Z4K (Z7a m) (fun k c=>Zdl c (Z1x m k)) (JQ (YW m) m.Methods.length []).1 (List.replicate m.Methods.length ZM.zero)with
 |none=>([],120)
 |some l=>(l,0)
theorem Z1d{m:Zc}{k:Nat}(h:k<m.Methods.length):Z1x m k=m.Methods[k]:=by simp[Z1x,List.getD_eq_getElem?_getD,h]
theorem Zhx{m:Zc}(h:Z8A m=0):∀k,k<m.Methods.length→(VO m k).2=0:=by
 intro k hk;unfold Z8A at h;cases hf:((List.range m.Methods.length).map fun k=>(VO m k).2).find? fun e=>decide (e≠0)with
 |none=>
  have:=List.find?_eq_none.1 hf _ (List.mem_map.2 ⟨k,List.mem_range.2 hk,rfl⟩);simpa using this
 |some e=>
  rw[hf]at h;have:=List.find?_some hf;simp at this h;exact absurd h this
theorem Z6a{m:Zc}(hm:XK m)(S:Small m):YK.f m=some (Kc m):=by
 have hM:=S.M;have F:Fit m:=⟨S.M,fun x hx=>(S.x x hx).2.2⟩
 have p0:=Z69 F;unfold YK.f Kc;by_cases hb:TA m=true
 ·rw[if_pos hb]at p0 ⊢;refine Zf ?_;dsimp only[YK.F];rw[p0,bS,if_pos (by simp)]
 ·rw[if_neg hb]at p0 ⊢;have hok:=ZaD (W:=YW m) m.Methods.length [] (by simp);have hWl:(YW m).length=m.Methods.length:=by simp[YW]
  generalize JQ (YW m) m.Methods.length []=oe at p0 hok
  obtain⟨o,e⟩:=oe;dsimp only;by_cases he:e=0
  ·subst he;obtain⟨ho1,ho2⟩:=hok rfl;have hol:o.length=m.Methods.length:=by simpa using ho1
   rw[if_neg (by simp),Ze (t :=.l1 (o,0) ((0:Nat):Int)) (by dsimp only[YK.F];rw[p0,bS,if_neg (by simp)];rfl)];have hrow:∀k,k<m.Methods.length→YF.f m k=some (VO m k):=by
    intro k hk;obtain⟨rows,e,g1,-⟩:=rows_ok hm S hk;unfold VO;rw[g1];rfl
   have go:Z8A m=0→∀(c pre:List Int) (l:List ZM),o=pre++c→l.length=m.Methods.length→Zw (YK.F m) (.l2 (o,0) l (pre.length:Int))=some (match Z4K (Z7a m) (fun k c=>Zdl c (Z1x m k)) c l with|none=>([],120)|some l=>(l,0)):=by
    intro he0 c;induction c with
    |nil=>
     intro pre l hp hl;refine Zf ?_;dsimp only[YK.F];rw[if_neg (by rw[hp];simp)];rfl
    |cons a c ih=>
     intro pre l hp hl;have hpl:pre.length<o.length:=by rw[hp];simp
     have hi:o[pre.length]=a:=by simp[hp]
     obtain⟨a0,a1⟩:=ho2 a (by rw[hp];simp);have hk:a.toNat<m.Methods.length:=by omega
     have hak:((a.toNat:Nat):Int)=a:=by omega
     have hbk:(nm m.Methods[a.toNat].Code).any (VR m.Methods.length)=false:=by
      have:=List.any_eq_false.1 (show(m.Methods.any fun x=>(nm x.Code).any (VR m.Methods.length))=false by simpa[TA]using hb) _ (List.getElem_mem hk);simpa using this
     have hr2:YF.f m a.toNat=some ((VO m a.toNat).1,0):=by rw[hrow _ hk,←Zhx he0 _ hk]
     have c1:=Zjk (kn:=l) hm S hk hbk hl hr2;rw[hak,←Z1d hk]at c1;have c1:YQ.f m a l=some (Z7a m l a.toNat):=c1;have f1:=Zhw (Z7a m l a.toNat) (Z1x m a.toNat);have e1:=Uu (xs:=l) a0 (by omega);have e2:elt (l.set a.toNat (Z7a m l a.toNat)) a=some (Z7a m l a.toNat):=by
      rw[Uu (xs:=l.set a.toNat (Z7a m l a.toNat)) a0 (by rw[List.length_set];omega)];simp
     have e3:=Uu (xs:=m.Methods) a0 hk;rw[←Z1d hk]at e3;rw[Z4K];by_cases hf:Zdl (Z7a m l a.toNat) (Z1x m a.toNat)=true
     ·rw[if_pos hf,←ih (pre ++ [a]) _ (by rw[hp];simp) (by rw[List.length_set];exact hl)];refine Ze ?_;dsimp only[YK.F];rw[if_pos (by omega),Zy hpl,hi];simp only[bS];rw[c1];simp only[bS];rw[e1];simp only[bS];rw[e2];simp only[bS];rw[e3];simp only[bS];rw[f1];simp only[bS];rw[if_neg (by simp[hf]),Zu pre.length (by omega),List.length_append];rfl
     ·rw[if_neg hf];refine Zf ?_;dsimp only[YK.F];rw[if_pos (by omega),Zy hpl,hi];simp only[bS];rw[c1];simp only[bS];rw[e1];simp only[bS];rw[e2];simp only[bS];rw[e3];simp only[bS];rw[f1];simp only[bS];rw[if_pos (by simpa using hf)]
   have scan:∀(j k:Nat),k+j=m.Methods.length→Zw (YK.F m) (.l1 (o,0) (k:Int))=match ((List.range' k j).map fun k=>(VO m k).2).find? (fun e=>decide (e≠0))with
       |some e=>some ([],e)
       |none=>Zw (YK.F m) (.l1 (o,0) (m.Methods.length:Int)):=by
    intro j;induction j with
    |zero=>intro k hk;simp at hk;subst hk;simp
    |succ j ihj=>
     intro k hk;have hr:=hrow k (by omega);rw[List.range'_succ,List.map_cons,List.find?_cons];by_cases he:(VO m k).2=0
     ·rw[show decide ((VO m k).2≠0)=false by simpa using he];dsimp only;rw[←ihj (k+1) (by omega)];refine Ze ?_;dsimp only[YK.F];unfold Uo.f;rw[if_pos (by omega),hr];simp only[bS];rw[if_neg (by simpa using he),Zu k (by omega)]
     ·rw[show decide ((VO m k).2≠0)=true by simpa using he];refine Zf ?_;dsimp only[YK.F];unfold Uo.f;rw[if_pos (by omega),hr];simp only[bS];rw[if_pos he]
   rw[scan m.Methods.length 0 (by omega),←List.range_eq_range'];have hE:Z8A m=(((List.range m.Methods.length).map fun k=>(VO m k).2).find? fun e=>decide (e≠0)).getD 0:=rfl;cases hf:((List.range m.Methods.length).map fun k=>(VO m k).2).find? fun e=>decide (e≠0)with
   |some e=>
    rw[hf]at hE;have hne:e≠0:=by have:=List.find?_some hf;simpa using this
    rw[hE,Option.getD_some,if_pos hne]
   |none=>
    rw[hf]at hE;have hE:Z8A m=0:=hE;rw[if_neg (by simpa using hE)];have:=go hE o [] (List.replicate o.length ZM.zero) rfl (by rw[List.length_replicate];exact hol);rw[hol]at this;rw[←this];refine Ze ?_;dsimp only[YK.F];rw[if_neg (by omega),if_pos (by omega)];simp[hol]
  ·rw[if_pos he];refine Zf ?_;dsimp only[YK.F];rw[p0,bS,if_pos he]
end XG
namespace Zz
theorem Zhz(n:Fin 256):Vx.f (n.1:Int)=YC.f (n.1:Int)∧(Vx.f (n.1:Int)).isSome=true:=by
 revert n;decide +kernel
theorem Z84{x:Int}(h0:0≤x)(h1:x<256):∃b,Vx.f x=some b∧YC.f x=some b:=by
 obtain⟨n,rfl⟩:=Int.eq_ofNat_of_zero_le h0;obtain⟨e,s⟩:=Zhz ⟨n,by omega⟩;dsimp only at e s;obtain⟨b,hb⟩:=Option.isSome_iff_exists.1 s;exact⟨b,hb,e▸hb⟩
theorem Z5y{i:Z7}(h:Y5 i):VF.f i=some (may i):=by
 obtain⟨h0,h1⟩:=Z7E h;obtain⟨b,hb,hb'⟩:=Z84 h0 h1;unfold VF.f may;rw[hb,hb'];simp only[bS];congr 1;rw[Bool.eq_iff_iff];simp only[Bool.and_eq_true,decide_eq_true_eq];omega
end Zz
namespace Zz
def gR(l:List Z7)(x:Nat×Nat):ZE:=⟨x.1,x.2,turns l x.1⟩
def FLp(K:Nat→Kn)(f m:Nat):List Nat:=(List.range m).filter fun t=>decide (K t=.again f)
theorem Zjm(K:Nat→Kn)(f m:Nat):FLp K f (m+1)=FLp K f m++(if K m=.again f then [m]else []):=by
 unfold FLp;rw[List.range_succ,List.filter_append];congr 1;by_cases h:K m=.again f<;>simp[h]
theorem ZoD(K:Nat→Kn)(f m:Nat):(FLp K f m).length≤m:=by
 unfold FLp;exact Nat.le_trans (List.length_filter_le _ _) (by simp)
theorem Zb8{l:List Z7}(hl:l.length≤200)(hm:∀x∈l,may x=true){f:Nat}(hf:f<l.length){out:List ZE}(ho:out.length≤200) :
    Zw (ZJ.F l) (.l2 f out 0 0)=Zw (ZJ.F l) (.l2 f (out++((FL (KK l) l.length f).map fun t=>gR l (f,t))) (FL (KK l) l.length f).length l.length):=by
 have key:=TF (F:=ZJ.F l) (n:=l.length) (fun m =>.l2 f (out++((FLp (KK l) f m).map fun t=>gR l (f,t))) (FLp (KK l) f m).length m) (fun k hk=>by
  have hle:=ZoD (KK l) f k;dsimp only[ZJ.F];rw[if_pos (by omega),Zy hk,Zy hf,bS,Zjm];have ha:=Z51 (f:=f) hk hm;by_cases VB:l[k].Op=29
  ·rw[if_pos VB];simp only[bS];by_cases hA:l[k].A=(f:Int)
   ·rw[if_pos (by simpa using hA),if_pos (by simp;omega),if_pos (ha.2 ⟨VB,hA⟩)];unfold ZJ.j2;rw[Zu _ (by omega),Zu _ (by omega)];simp only[List.map_append,List.map_cons,List.map_nil,List.append_assoc,List.length_append,List.length_cons,List.length_nil,gR,Zdf hf,Nat.zero_add]
   ·rw[if_neg (by simpa using hA),if_neg (fun h=>hA (ha.1 h).2)];unfold ZJ.j2;rw[Zu _ (by omega)];simp only[List.append_nil]
  ·rw[if_neg VB,bS,if_neg (by simp),if_neg (fun h=>VB (ha.1 h).1)];unfold ZJ.j2;rw[Zu _ (by omega)];simp only[List.append_nil])
 have e:(FLp (KK l) f 0)=[]:=rfl;simp only[e,List.map_nil,List.append_nil]at key;exact key
theorem Zld{l:List Z7}(hl:l.length≤200)(hm:∀x∈l,may x=true) :
    (Ok1 (KK l) l.length∧Ok2 (KK l) l.length→ZJ.f l=some ((RL (KK l) l.length).map (gR l),true))∧(¬(Ok1 (KK l) l.length∧Ok2 (KK l) l.length)→ZJ.f l=some ([],false)):=by
 unfold ZJ.f;rw[Ze (t :=.l1 [] ((0:Nat):Int)) rfl];have inner:∀k (hk:k<l.length),(∀j,j<k→p1 (KK l) l.length j)→KK l k=.loop→((p1 (KK l) l.length k→ZJ.F l (.l2 k ((RLp (KK l) l.length k).map (gR l)++((FL (KK l) l.length k).map fun t=>gR l (k,t))) (FL (KK l) l.length k).length l.length)=some (.inl (.l1 ((RLp (KK l) l.length (k+1)).map (gR l)) ((k+1:Nat):Int)))) ∧
     (¬p1 (KK l) l.length k→ZJ.F l (.l2 k ((RLp (KK l) l.length k).map (gR l)++((FL (KK l) l.length k).map fun t=>gR l (k,t))) (FL (KK l) l.length k).length l.length)=some (.inr ([],false)))):=by
  intro k hk hj hK;have hle:=Z6Z k hj;have e0:∀t,FL (KK l) l.length k=[t]→elt ((RLp (KK l) l.length k).map (gR l)++((FL (KK l) l.length k).map fun t=>gR l (k,t))) (IntKind.i64.wrap ((((RLp (KK l) l.length k).map (gR l)++((FL (KK l) l.length k).map fun t=>gR l (k,t))).length:Int)-1))=some (gR l (k,t)):=by
   intro t ht;rw[ht,Z2d _ (by simp) (by simp;omega),Z5i];simp
  dsimp only[ZJ.F];rw[if_neg (by omega)];refine⟨fun h=>?_,fun h=>?_⟩
  ·obtain⟨t,ht,hkt⟩:=h hK;rw[e0 t ht,if_neg (by rw[ht];simp)];simp only[bS];rw[if_neg (by rw[decide_eq_true_eq];dsimp only[gR];omega)];unfold ZJ.j1;rw[Zu _ (by omega),Z8v,if_pos hK];simp only[List.map_append,List.map_map];rfl
  ·by_cases h1:(FL (KK l) l.length k).length=1
   ·obtain⟨t,ht⟩:=List.length_eq_one_iff.1 h1;rw[e0 t ht,if_neg (by omega)];simp only[bS];rw[if_pos (by
     rw[decide_eq_true_eq];dsimp only[gR];rcases Nat.lt_or_ge t k with z|z
     ·omega
     ·exact absurd (fun _=>⟨t,ht,z⟩) h)]
   ·rw[if_pos (by omega)];rfl
 have key:=Tx (F:=ZJ.F l) (n:=l.length) (b:=([],false)) (fun k =>.l1 ((RLp (KK l) l.length k).map (gR l)) (k:Int)) (p1 (KK l) l.length) (fun k hk hj hp=>by
  have hle:=Z6Z k hj;by_cases h28:l[k].Op=28
  ·rw[Ze (t :=.l2 k ((RLp (KK l) l.length k).map (gR l)) 0 0) (by
    dsimp only[ZJ.F];rw[if_pos (by omega),Zy hk];simp only[bS];rw[if_neg (by simpa using h28)])]
   rw[Zb8 hl hm hk (by simp;omega)];exact Ze ((inner k hk hj ((Z39 hk).2 h28)).1 hp)
  ·refine Ze ?_;dsimp only[ZJ.F];rw[if_pos (by omega),Zy hk];simp only[bS];rw[if_pos h28];unfold ZJ.j1;rw[Zu _ (by omega),Z8v,if_neg (fun h=>h28 ((Z39 hk).1 h)),List.append_nil]) (fun k hk hj hp=>by
  have hle:=Z6Z k hj;have hK:KK l k=.loop:=Classical.byContradiction fun hc=>hp fun h=>absurd h hc;rw[Ze (t :=.l2 k ((RLp (KK l) l.length k).map (gR l)) 0 0) (by
      dsimp only[ZJ.F];rw[if_pos (by omega),Zy hk];simp only[bS];rw[if_neg (by simpa using(Z39 hk).1 hK)])]
  rw[Zb8 hl hm hk (by simp;omega)];exact Zf ((inner k hk hj hK).2 hp))
 have key2:=Tx (F:=ZJ.F l) (n:=l.length) (b:=([],false)) (fun k =>.l3 ((RL (KK l) l.length).map (gR l)) (k:Int)) (p2 (KK l) l.length) (fun k hk hj hp=>Ze (by
  dsimp only[ZJ.F];rw[if_pos (by omega),Zy hk];simp only[bS];rw[Zu _ (by omega)];by_cases VB:l[k].Op=29
  ·have hA:=KN (hm _ (List.getElem_mem hk)) (.inr (.inr VB));obtain⟨q1,q2⟩:=hp l[k].A.toNat ((Z51 hk hm).2 ⟨VB,by omega⟩);rw[if_pos VB,if_neg (by omega),Uu hA.1 q1];simp only[bS];rw[if_neg (by rw[decide_eq_true_eq];exact fun h=>h ((Z39 q1).1 q2))]
  ·rw[if_neg VB];simp only[bS];rw[if_neg (by simp)])) (fun k hk hj hp=>Zf (by
  dsimp only[ZJ.F];rw[if_pos (by omega),Zy hk];simp only[bS];by_cases VB:l[k].Op=29
  ·have hA:=KN (hm _ (List.getElem_mem hk)) (.inr (.inr VB));rw[if_pos VB];by_cases hn:l[k].A≥l.length
   ·rw[if_pos hn];rfl
   ·rw[if_neg hn,Uu hA.1 (by omega)];simp only[bS];rw[if_pos (by
     rw[decide_eq_true_eq];intro h;refine hp fun a ha=>?_;have:=(Z51 hk hm).1 ha;have e:a=l[k].A.toNat:=by omega
     subst e;exact⟨by omega,(Z39 (by omega)).2 h⟩)]
  ·refine absurd (fun a ha=>?_) hp;exact absurd ((Z51 hk hm).1 ha).1 VB))
 have mid:Zw (ZJ.F l) (.l1 ((RLp (KK l) l.length l.length).map (gR l)) (l.length:Int))=Zw (ZJ.F l) (.l3 ((RL (KK l) l.length).map (gR l)) ((0:Nat):Int)):=Ze (by
  dsimp only[ZJ.F];rw[if_neg (by omega)];rfl)
 have h0:Zw (ZJ.F l) (.l1 [] ((0:Nat):Int))=Zw (ZJ.F l) (.l1 ((RLp (KK l) l.length 0).map (gR l)) ((0:Nat):Int)):=rfl;rw[h0];by_cases q1:∀k,k<l.length→p1 (KK l) l.length k
 ·have hO1:Ok1 (KK l) l.length:=Zaz.2 q1;rw[key.1 q1,mid];by_cases q2:∀k,k<l.length→p2 (KK l) l.length k
  ·refine⟨fun _=>(key2.1 q2).trans (Zf ?_),fun h=>absurd ⟨hO1,fun t a ht hk=>q2 t ht a hk⟩ h⟩;dsimp only[ZJ.F];rw[if_neg (by omega)]
  ·exact⟨fun h=>absurd (fun k hk a ha=>h.2 k a hk ha) q2,fun _=>key2.2 q2⟩
 ·exact⟨fun h=>absurd (Zaz.1 h.1) q1,fun _=>key.2 q1⟩
end Zz
namespace Zz
def wiB(x:ZE)(a:Int):Bool:=(decide (x.From<a))&&(decide (a≤x.To))
theorem TY{x:ZE}{a:Int}:wiB x a=true↔x.From<a∧a≤x.To:=by
 unfold wiB;rw[Bool.and_eq_true,decide_eq_true_eq,decide_eq_true_eq]
theorem ZaE(x:ZE)(a:Int):XF.f x a=some (wiB x a):=rfl
theorem ZwB(x y:ZE):VL.f x y=some (wiB y x.From&&wiB y x.To):=by
 unfold VL.f;rw[ZaE,ZaE];simp only[bS];cases wiB y x.From<;>rfl
def bad(x y:ZE):Prop:=(x.From<y.To∧y.From<x.To)∧¬((y.From<x.From∧x.From≤y.To)∧(y.From<x.To∧x.To≤y.To))∧¬((x.From<y.From∧y.From≤x.To)∧(x.From<y.To∧y.To≤x.To))
def Z1U(s:List ZE)(a:Nat):Nat:=(s.filter fun x=>wiB x a).length
theorem Z7b{s:List ZE}{n:Int}(hs:s.length≤400){i:Nat}(hi:i<s.length) :
    ((∀k (hk:k<i),¬bad s[i] s[k])→Zw (Zt.F s n) (.l2 i 0)=Zw (Zt.F s n) (.l1 ((i+1:Nat):Int)))∧(¬(∀k (hk:k<i),¬bad s[i] s[k])→Zw (Zt.F s n) (.l2 i 0)=some false):=by
 have val:∀k (hk:k<i),(bad s[i] s[k]→Zt.F s n (.l2 i k)=some (.inr false))∧(¬bad s[i] s[k]→Zt.F s n (.l2 i k)=some (.inl (.l2 i ((k+1:Nat):Int)))):=by
  intro k hk;have e:Zt.F s n (.l2 i k)=if((decide (s[i].From<s[k].To))&&(decide (s[k].From<s[i].To)))=true then(if(!(wiB s[k] s[i].From&&wiB s[k] s[i].To))=true then(Zt.j1 s n i k (!(wiB s[i] s[k].From&&wiB s[i] s[k].To)))else(Zt.j1 s n i k false))else(Zt.j1 s n i k false):=by
   dsimp only[Zt.F];rw[if_pos (by omega),Zy hi,Zy (show k<s.length by omega)];simp only[bS,ZwB,TM.f]
  rw[e];have go:Zt.j1 s n i k false=some (.inl (.l2 i ((k+1:Nat):Int))):=by
   unfold Zt.j1;rw[if_neg (by simp),Zu _ (by omega)]
  have i1:∀b c d:Bool,(b&&c)=d↔(if b=true then c else false)=d:=by intro b c d;cases b<;>simp
  unfold bad;by_cases hc:s[i].From<s[k].To∧s[k].From<s[i].To
  ·rw[if_pos (by rw[Bool.and_eq_true,decide_eq_true_eq,decide_eq_true_eq];exact hc)];by_cases h1:(s[k].From<s[i].From∧s[i].From≤s[k].To)∧(s[k].From<s[i].To∧s[i].To≤s[k].To)
   ·rw[if_neg (by rw[Bool.not_eq_true',←Bool.not_eq_true,Bool.and_eq_true,TY,TY];exact fun h=>h h1),go];exact⟨fun h=>absurd h1 h.2.1,fun _=>rfl⟩
   ·rw[if_pos (by rw[Bool.not_eq_true',←Bool.not_eq_true,Bool.and_eq_true,TY,TY];exact h1)];by_cases h2:(s[i].From<s[k].From∧s[k].From≤s[i].To)∧(s[i].From<s[k].To∧s[k].To≤s[i].To)
    ·have:(!(wiB s[i] s[k].From&&wiB s[i] s[k].To))=false:=by
      rw[Bool.not_eq_false',Bool.and_eq_true,TY,TY];exact h2
     rw[this,go];exact⟨fun h=>absurd h2 h.2.2,fun _=>rfl⟩
    ·have:(!(wiB s[i] s[k].From&&wiB s[i] s[k].To))=true:=by
      rw[Bool.not_eq_true',←Bool.not_eq_true,Bool.and_eq_true,TY,TY];exact h2
     rw[this];exact⟨fun _=>rfl,fun h=>absurd ⟨hc,h1,h2⟩ h⟩
  ·rw[if_neg (by rw[Bool.and_eq_true,decide_eq_true_eq,decide_eq_true_eq];exact hc),go];exact⟨fun h=>absurd h.1 hc,fun _=>rfl⟩
 have key:=Tx (F:=Zt.F s n) (n:=i) (b:=false) (fun k =>.l2 i (k:Int)) (fun k=>∀hk:k<i,¬bad s[i] s[k]) (fun k hk _ hp=>Ze ((val k hk).2 (hp hk))) (fun k hk _ hp=>Zf ((val k hk).1 (Classical.byContradiction fun hc=>hp fun _=>hc)));refine⟨fun h=>(key.1 fun k _ hk=>h k hk).trans (Ze ?_),fun h=>key.2 fun hc=>h fun k hk=>hc k hk hk⟩;dsimp only[Zt.F];rw[if_neg (by omega),Zu _ (by omega)]
theorem ZdH{s:List ZE}{n:Int}(hs:s.length≤400){a:Nat} :
    Zw (Zt.F s n) (.l4 a 0 0)=Zw (Zt.F s n) (.l4 a (Z1U s a) s.length):=by
 have key:=TF (F:=Zt.F s n) (n:=s.length) (fun k =>.l4 a ((s.take k).filter fun x=>wiB x a).length k) (fun k hk=>by
  have hle:((s.take k).filter fun x=>wiB x a).length≤k:=Nat.le_trans (List.length_filter_le _ _) (by simp;omega);dsimp only[Zt.F];rw[if_pos (by omega),Zy hk];simp only[bS,ZaE];rw[take_succ _ _ hk,List.filter_append];unfold Zt.j2;cases hb:wiB s[k] a with
  |true=>rw[if_pos rfl,Zu _ (by omega),Zu _ (by omega)];simp[hb]
  |false=>rw[if_neg (by simp),Zu _ (by omega)];simp[hb])
 rw[List.take_length]at key;exact key
theorem ZfR{s:List ZE}{n:Nat}(hs:s.length≤400)(hn:n≤200) :
    ((∀i (hi:i<s.length) k (hk:k<i),¬bad s[i] s[k])∧(∀a,a<n→Z1U s a≤4)→Zt.f s n=some true)∧(¬((∀i (hi:i<s.length) k (hk:k<i),¬bad s[i] s[k])∧(∀a,a<n→Z1U s a≤4))→Zt.f s n=some false):=by
 unfold Zt.f;rw[Ze (t :=.l1 ((0:Nat):Int)) rfl];have st2:∀i,i<s.length→Zw (Zt.F s n) (.l1 i)=Zw (Zt.F s n) (.l2 i 0):=fun i hi=>Ze (by
  dsimp only[Zt.F];rw[if_pos (by omega)])
 have key:=Tx (F:=Zt.F s n) (n:=s.length) (b:=false) (fun i =>.l1 (i:Int)) (fun i=>∀(hi:i<s.length) k (hk:k<i),¬bad s[i] s[k]) (fun i hi _ hp=>(st2 i hi).trans ((Z7b hs hi).1 (hp hi))) (fun i hi _ hp=>(st2 i hi).trans ((Z7b hs hi).2 (fun hc=>hp fun _=>hc)));have st4:∀a,a<n→Zw (Zt.F s n) (.l3 a)=Zw (Zt.F s n) (.l4 a (Z1U s a) s.length):=fun a ha=>(Ze (by
  dsimp only[Zt.F];rw[if_pos (by omega)])).trans (ZdH hs)
 have key2:=Tx (F:=Zt.F s n) (n:=n) (b:=false) (fun a =>.l3 (a:Int)) (fun a=>Z1U s a≤4) (fun a ha _ hp=>(st4 a ha).trans (Ze (by
  dsimp only[Zt.F];rw[if_neg (by omega),if_neg (by omega),Zu _ (by omega)]))) (fun a ha _ hp=>(st4 a ha).trans (Zf (by
  dsimp only[Zt.F];rw[if_neg (by omega),if_pos (by omega)])))
 have mid:Zw (Zt.F s n) (.l1 (s.length:Int))=Zw (Zt.F s n) (.l3 ((0:Nat):Int)):=Ze (by
  dsimp only[Zt.F];rw[if_neg (by omega)];rfl)
 by_cases q1:∀i (hi:i<s.length) k (hk:k<i),¬bad s[i] s[k]
 ·have e1:=(key.1 fun i _ hi=>q1 i hi).trans mid;by_cases q2:∀a,a<n→Z1U s a≤4
  ·refine⟨fun _=>(e1.trans (key2.1 q2)).trans (Zf ?_),fun h=>absurd ⟨q1,q2⟩ h⟩;dsimp only[Zt.F];rw[if_neg (by omega)]
  ·exact⟨fun h=>absurd h.2 q2,fun _=>e1.trans (key2.2 q2)⟩
 ·exact⟨fun h=>absurd h.1 q1,fun _=>key.2 fun hc=>q1 fun i hi=>hc i hi hi⟩
theorem ZfS{l:List Z7}(h1:Ok1 (KK l) l.length) :
    ((∀i (hi:i<((RL (KK l) l.length).map (gR l)).length) k (hk:k<i),¬bad ((RL (KK l) l.length).map (gR l))[i] ((RL (KK l) l.length).map (gR l))[k])∧(∀a,a<l.length→Z1U ((RL (KK l) l.length).map (gR l)) a≤4))↔(Zj1 (KK l) l.length∧Deep l.length (RL (KK l) l.length)):=by
 have hd:∀a,Z1U ((RL (KK l) l.length).map (gR l)) a=((RL (KK l) l.length).filter fun x=>decide (x.1<a)&&decide (a≤x.2)).length:=by
  intro a;unfold Z1U;rw[List.filter_map,List.length_map];congr 2;funext x;show wiB (gR l x) a=_;rw[Bool.eq_iff_iff,TY,Bool.and_eq_true,decide_eq_true_eq,decide_eq_true_eq];dsimp only[gR];omega
 have hs:=Z6W h1;rw[List.pairwise_iff_getElem]at hs;have hb:(∀i (hi:i<((RL (KK l) l.length).map (gR l)).length) k (hk:k<i),¬bad ((RL (KK l) l.length).map (gR l))[i] ((RL (KK l) l.length).map (gR l))[k])↔Zj1 (KK l) l.length:=by
  constructor
  ·intro h f t g u p q hfg hgt;obtain⟨k,hk,ek⟩:=List.mem_iff_getElem.1 ((Z1b (f,t)).2 p);obtain⟨i,hi,ei⟩:=List.mem_iff_getElem.1 ((Z1b (g,u)).2 q);have hki:k<i:=by
    rcases Nat.lt_trichotomy k i with z|z|z
    ·exact z
    ·subst z;rw[ek]at ei;cases ei;omega
    ·have:=hs i k hi hk z;rw[ek,ei]at this;simp only at this;omega
   have:=h i (by simpa using hi) k hki;simp only[List.getElem_map,ek,ei]at this;obtain⟨u',q',hu',hq'⟩:=h1 g q.1 q.2.2.1;have:=hq' u q;unfold bad at *;dsimp only[gR]at *;omega
  ·intro h i hi k hk hbad;simp only[List.length_map]at hi;simp only[List.getElem_map]at hbad;have hlt:=hs k i (by omega) hi hk;have pk:=(Z1b _).1 (List.getElem_mem (show k<(RL (KK l) l.length).length by omega));have pi:=(Z1b _).1 (List.getElem_mem hi);have:=h _ _ _ _ pk pi hlt;unfold bad at hbad;dsimp only[gR]at hbad;omega
 rw[hb];refine and_congr Iff.rfl ?_;unfold Deep;constructor
 ·intro h a ha;rw[←hd];exact h a ha
 ·intro h a ha;rw[hd];exact h a ha
end Zz
namespace Zz
theorem Zdn{l:List Z7}(hl:l.length≤200)(h1:Ok1 (KK l) l.length){k:Nat}(hk:k<l.length)(hop:l[k].Op=26∨l[k].Op=27)(hA:(k:Int)<l[k].A∧l[k].A<l.length) :
    (Jk l (fun x=>Pr (KK l) l.length x.1 x.2) k→Zw (Zr.F l) (.l3 ((RL (KK l) l.length).map (gR l)) k 0)=Zw (Zr.F l) (.l2 ((RL (KK l) l.length).map (gR l)) ((k+1:Nat):Int))) ∧
    (¬Jk l (fun x=>Pr (KK l) l.length x.1 x.2) k→Zw (Zr.F l) (.l3 ((RL (KK l) l.length).map (gR l)) k 0)=some ([],90)):=by
 have hlen:=Z70 h1;have key:=Tx (F:=Zr.F l) (n:=(RL (KK l) l.length).length) (b:=([],90)) (fun q =>.l3 ((RL (KK l) l.length).map (gR l)) k (q:Int)) (fun q=>∀hq:q<(RL (KK l) l.length).length,((RL (KK l) l.length)[q].1:Int)<l[k].A→l[k].A≤(RL (KK l) l.length)[q].2→(RL (KK l) l.length)[q].1<k∧k≤(RL (KK l) l.length)[q].2) (fun q hq _ hp=>Ze (by
  have e:elt ((RL (KK l) l.length).map (gR l)) (q:Int)=some (gR l (RL (KK l) l.length)[q]):=by rw[Zy (by simpa using hq),List.getElem_map]
  dsimp only[Zr.F];rw[if_pos (by simp;omega),e,Zy hk];simp only[bS,ZaE];have go:Zr.j2 l ((RL (KK l) l.length).map (gR l)) k q false=some (.inl (.l3 ((RL (KK l) l.length).map (gR l)) k ((q+1:Nat):Int))):=by
   unfold Zr.j2;rw[if_neg (by simp),Zu _ (by omega)]
  by_cases hw:wiB (gR l (RL (KK l) l.length)[q]) l[k].A=true
  ·rw[if_pos hw];rw[TY]at hw;have:=hp hq hw.1 hw.2;have hw2:wiB (gR l (RL (KK l) l.length)[q]) k=true:=by rw[TY];dsimp only[gR];omega
   rw[hw2];exact go
  ·rw[if_neg hw];exact go)) (fun q hq _ hp=>Zf (by
  have e:elt ((RL (KK l) l.length).map (gR l)) (q:Int)=some (gR l (RL (KK l) l.length)[q]):=by rw[Zy (by simpa using hq),List.getElem_map]
  dsimp only[Zr.F];rw[if_pos (by simp;omega),e,Zy hk];simp only[bS,ZaE];have hx:((RL (KK l) l.length)[q].1:Int)<l[k].A∧l[k].A≤(RL (KK l) l.length)[q].2∧¬((RL (KK l) l.length)[q].1<k∧k≤(RL (KK l) l.length)[q].2):=by
   refine Classical.byContradiction fun hc=>hp fun _ a b=>Classical.byContradiction fun hd=>hc ⟨a,b,hd⟩
  rw[if_pos (by rw[TY];exact⟨hx.1,hx.2.1⟩)];have hw2:wiB (gR l (RL (KK l) l.length)[q]) k=false:=by rw[←Bool.not_eq_true,TY];clear hp;dsimp only[gR];omega
  rw[hw2];rfl))
 refine⟨fun h=>(key.1 fun q hq _ a b=>?_).trans (Ze ?_),fun h=>key.2 fun hc=>h fun x hx _=>?_⟩
 ·exact(h _ (List.getElem?_eq_getElem hk) hop).2.2 _ ((Z1b _).1 (List.getElem_mem hq)) a b
 ·dsimp only[Zr.F];rw[if_neg (by simp)];unfold Zr.j1;rw[Zu _ (by omega)]
 ·rw[List.getElem?_eq_getElem hk]at hx;cases hx;refine⟨hA.1,hA.2,fun y hy a b=>?_⟩;obtain⟨q,hq,rfl⟩:=List.mem_iff_getElem.1 ((Z1b y).2 hy);exact hc q hq hq a b
theorem Z54{l:List Z7}(hlen:l.length<4611686018427387904)(hw:∀x∈l,Y5 x) :
    (¬Known l→Zr.f l=some ([],40))∧(Known l→UK l→Zr.f l=some ((RL (KK l) l.length).map (gR l),0))∧(Known l→¬UK l→Zr.f l=some ([],90)):=by
 unfold Zr.f;by_cases hn:1≤l.length∧l.length≤200
 case neg=>
  refine⟨fun _=>Zf ?_,fun h=>absurd ⟨h.1,h.2.1⟩ hn,fun h=>absurd ⟨h.1,h.2.1⟩ hn⟩;dsimp only[Zr.F];rw[if_pos (by rw[Bool.or_eq_true,decide_eq_true_eq,decide_eq_true_eq];omega)]
 obtain⟨n1,n2⟩:=hn;rw[Ze (t :=.l1 ((0:Nat):Int)) (by
  dsimp only[Zr.F];rw[if_neg (by rw[Bool.or_eq_true,decide_eq_true_eq,decide_eq_true_eq];omega)];rfl)]
 have key:=Tx (F:=Zr.F l) (n:=l.length) (b:=([],40)) (fun k =>.l1 (k:Int)) (fun k=>∀hk:k<l.length,may l[k]=true) (fun k hk _ hp=>Ze (by
  dsimp only[Zr.F];rw[if_pos (by omega),Zy hk,bS,Z5y (hw _ (List.getElem_mem hk)),hp hk,bS,if_neg (by simp),Zu _ (by omega)])) (fun k hk _ hp=>Zf (by
  dsimp only[Zr.F];rw[if_pos (by omega),Zy hk,bS,Z5y (hw _ (List.getElem_mem hk)),bS,if_pos (by cases h:may l[k]with|false=>rfl|true=>exact absurd (fun _=>h) hp)]))
 by_cases hm:∀x∈l,may x=true
 case neg=>
  have:¬(∀k,k<l.length→∀hk:k<l.length,may l[k]=true):=fun h=>hm fun x hx=>by
   obtain⟨k,hk,rfl⟩:=List.mem_iff_getElem.1 hx;exact h k hk hk
  exact⟨fun _=>key.2 this,fun h=>absurd h.2.2 hm,fun h=>absurd h.2.2 hm⟩
 have hK:Known l:=⟨n1,n2,hm⟩
 refine⟨fun h=>absurd hK h,?_⟩
 suffices hs:(UK l→Zw (Zr.F l) (.l1 ((0:Nat):Int))=some ((RL (KK l) l.length).map (gR l),0))∧(¬UK l→Zw (Zr.F l) (.l1 ((0:Nat):Int))=some ([],90)) from ⟨fun _=>hs.1,fun _=>hs.2⟩
 rw[key.1 fun k hk _=>hm _ (List.getElem_mem hk)];have hlast:l.length-1<l.length:=by omega
 have wl:IntKind.i64.wrap ((l.length:Int)-1)=((l.length-1:Nat):Int):=Z2d _ (by omega) (by omega);have Z71:Z4H l↔(l[l.length-1].Op=31∨l[l.length-1].Op=32):=by
  unfold Z4H;constructor
  ·intro h;exact h _ (List.getElem?_eq_getElem hlast)
  ·intro h x hx;rw[List.getElem?_eq_getElem hlast]at hx;cases hx;exact h
 obtain⟨a1,a2⟩:=Zld n2 hm;by_cases hO:Ok1 (KK l) l.length∧Ok2 (KK l) l.length
 case neg=>
  refine⟨fun h=>absurd (Z01 h.1) hO,fun _=>Zf ?_⟩;dsimp only[Zr.F];rw[if_neg (by omega),a2 hO,wl,Zy hlast];simp only[bS];rfl
 obtain⟨o1,o2⟩:=hO;have hRL:=Z70 o1;obtain⟨b1,b2⟩:=ZfR (s:=(RL (KK l) l.length).map (gR l)) (n:=l.length) (by simp;omega) n2;have hrun:Run (KK l) l.length↔((∀i (hi:i<((RL (KK l) l.length).map (gR l)).length) k (hk:k<i),¬bad ((RL (KK l) l.length).map (gR l))[i] ((RL (KK l) l.length).map (gR l))[k])∧(∀a,a<l.length→Z1U ((RL (KK l) l.length).map (gR l)) a≤4)):=by
  rw[ZfS o1,Zet (R:=RL (KK l) l.length) fun h=>⟨fun x=>Z1b x,Zdc h⟩];exact⟨fun h=>h.2.2,fun h=>⟨o1,o2,h⟩⟩
 by_cases hR:Run (KK l) l.length
 case neg=>
  refine⟨fun h=>absurd h.1 hR,fun _=>Zf ?_⟩;dsimp only[Zr.F];rw[if_neg (by omega),a1 ⟨o1,o2⟩,wl,Zy hlast];simp only[bS,Bool.not_true,Bool.false_eq_true,if_false];rw[b2 (mt hrun.2 hR)];rfl
 by_cases hL:Z4H l
 case neg=>
  refine⟨fun h=>absurd h.2.1 hL,fun _=>Zf ?_⟩;dsimp only[Zr.F];rw[if_neg (by omega),a1 ⟨o1,o2⟩,wl,Zy hlast];simp only[bS,Bool.not_true,Bool.false_eq_true,if_false];rw[b1 (hrun.1 hR)];simp only[bS,Bool.not_true,Bool.false_or];rw[if_pos (by rw[Bool.and_eq_true,decide_eq_true_eq,decide_eq_true_eq];have:=mt Z71.2 hL;omega)]
 have e2:Zw (Zr.F l) (.l1 (l.length:Int))=Zw (Zr.F l) (.l2 ((RL (KK l) l.length).map (gR l)) ((0:Nat):Int)):=Ze (by
  dsimp only[Zr.F];rw[if_neg (by omega),a1 ⟨o1,o2⟩,wl,Zy hlast];simp only[bS,Bool.not_true,Bool.false_eq_true,if_false];rw[b1 (hrun.1 hR)];simp only[bS,Bool.not_true,Bool.false_or];rw[if_neg (by rw[Bool.and_eq_true,decide_eq_true_eq,decide_eq_true_eq];have:=Z71.1 hL;omega)];rfl)
 rw[e2];have opb:∀k (hk:k<l.length),(if l[k].Op≠26 then((elt l (k:Int)).bind fun Zfz=>some (decide (Zfz.Op≠27)))else(some false))=some (decide (¬(l[k].Op=26∨l[k].Op=27))):=by
  intro k hk;rw[Zy hk];simp only[bS];by_cases h:l[k].Op=26
  ·rw[if_neg (by simpa using h)];simp[h]
  ·rw[if_pos h];simp[h]
 have fin:=Tx (F:=Zr.F l) (n:=l.length) (b:=([],90)) (fun k =>.l2 ((RL (KK l) l.length).map (gR l)) (k:Int)) (Jk l fun x=>Pr (KK l) l.length x.1 x.2) (fun k hk _ hp=>by
  by_cases hop:l[k].Op=26∨l[k].Op=27
  ·have hA:=hp _ (List.getElem?_eq_getElem hk) hop;rw[Ze (t :=.l3 ((RL (KK l) l.length).map (gR l)) k 0) (by
    dsimp only[Zr.F];rw[if_pos (by omega),Zy hk];simp only[bS];have:=opb k hk;rw[Zy hk]at this;simp only[bS]at this;rw[this,bS,if_neg (by rw[decide_eq_true_eq];exact fun h=>h hop),if_neg (by omega),bS,if_neg (by rw[decide_eq_true_eq];omega)])]
   exact(Zdn n2 o1 hk hop ⟨hA.1,hA.2.1⟩).1 hp
  ·refine Ze ?_;dsimp only[Zr.F];rw[if_pos (by omega),Zy hk];simp only[bS];have:=opb k hk;rw[Zy hk]at this;simp only[bS]at this;rw[this,bS,if_pos (by rw[decide_eq_true_eq];exact hop)];unfold Zr.j1;rw[Zu _ (by omega)]) (fun k hk _ hp=>by
  have hop:l[k].Op=26∨l[k].Op=27:=Classical.byContradiction fun hc=>hp fun x hx h=>by
   rw[List.getElem?_eq_getElem hk]at hx;cases hx;exact absurd h hc
  have pre:∀(r:Option (Zr.S⊕((List ZE)×Int))),(((if l[k].A≤(k:Int)then(some true)else some (decide (l[k].A≥(l.length:Int)))).bind fun ZfA=>if ZfA=true then(some (.inr ([],90)))else(some (.inl (.l3 ((RL (KK l) l.length).map (gR l)) k 0))))=r)→Zr.F l (.l2 ((RL (KK l) l.length).map (gR l)) k)=r:=by
   intro r hr;dsimp only[Zr.F];rw[if_pos (by omega),Zy hk];simp only[bS];have:=opb k hk;rw[Zy hk]at this;simp only[bS]at this;rw[this,bS,if_neg (by rw[decide_eq_true_eq];exact fun h=>h hop)];exact hr
  by_cases hA:(k:Int)<l[k].A∧l[k].A<l.length
  ·rw[Ze (t :=.l3 ((RL (KK l) l.length).map (gR l)) k 0) (pre _ (by
    rw[if_neg (by omega),bS,if_neg (by rw[decide_eq_true_eq];omega)]))]
   exact(Zdn n2 o1 hk hop hA).2 hp
  ·refine Zf (pre _ ?_);by_cases h:l[k].A≤(k:Int)
   ·rw[if_pos h];rfl
   ·rw[if_neg h,bS,if_pos (by rw[decide_eq_true_eq];omega)])
 by_cases hJ:Jm l fun x=>Pr (KK l) l.length x.1 x.2
 ·refine⟨fun _=>(fin.1 hJ).trans (Zf ?_),fun h=>absurd ⟨hR,hL,hJ⟩ h⟩;dsimp only[Zr.F];rw[if_neg (by omega)]
 ·exact⟨fun h=>absurd h.2.2 hJ,fun _=>fin.2 hJ⟩
end Zz
namespace Zz
theorem Zjn{l:List Z7}(hlen:l.length<4611686018427387904)(hw:∀x∈l,Y5 x) :
    (∀a,¬Known l→Wz.f l a=some ([],40))∧(∀a,Known l→¬UK l→Wz.f l a=some ([],90))∧(∀a:Int,Known l→UK l→(a<0∨a≥l.length)→Wz.f l a=some ([],2))∧(∀a:Nat,Known l→UK l→a<l.length→Wz.f l a=some (ways l a,0)):=by
 obtain⟨a1,a2,a3⟩:=Z54 hlen hw;unfold Wz.f;refine⟨fun a h=>?_,fun a h hf=>?_,fun a h hf ha=>?_,fun a h hf ha=>?_⟩
 ·rw[a1 h];rfl
 ·rw[a3 h hf];rfl
 ·rw[a2 h hf,bS,if_neg (by simp),if_pos (by rw[Bool.or_eq_true,decide_eq_true_eq,decide_eq_true_eq];exact ha)]
 ·rw[a2 h hf,bS,if_neg (by simp),if_neg (by rw[Bool.or_eq_true,decide_eq_true_eq,decide_eq_true_eq];omega),Zy ha];simp only[bS];have hm:=h.2.2 _ (List.getElem_mem ha);have hn:=h.2.1;unfold ways;rw[List.getElem?_eq_getElem ha];dsimp only;generalize hx:l[a]=x at hm
  have wa:IntKind.i64.wrap ((a:Int)+1)=((a+1:Nat):Int):=Zu a (by omega);unfold Wz.j1;rw[wa];by_cases h31:x.Op=31
  ·rw[if_pos h31,if_pos (by rw[decide_eq_true_eq];exact h31),if_pos (.inl h31)]
  ·rw[if_neg h31];by_cases h32:x.Op=32
   ·rw[if_pos (by rw[decide_eq_true_eq];exact h32),if_pos (.inr h32)]
   ·rw[if_neg (by rw[decide_eq_true_eq];exact h32),if_neg (show ¬(x.Op=31∨x.Op=32) by omega)];by_cases h26:x.Op=26
    ·rw[if_pos h26,if_pos h26]
    ·rw[if_neg h26,if_neg h26];by_cases h27:x.Op=27
     ·rw[if_pos h27,if_pos h27];by_cases e:x.A=((a+1:Nat):Int)
      ·rw[if_pos e,if_pos e]
      ·rw[if_neg e,if_neg e]
     ·rw[if_neg h27,if_neg h27];by_cases VB:x.Op=29
      ·have hp:=KN hm (.inr (.inr VB));have wA:IntKind.i64.wrap (x.A+1)=x.A+1:=ZW (by omega) (by omega);rw[if_pos VB,if_pos VB,wA]
      ·rw[if_neg VB,if_neg VB]
end Zz
namespace Y8
open Zz
theorem Z6b{x y:List Int}(h:x.length<4611686018427387904):ZO.f x y=some (decide (x=y)):=by
 rw[←Zkf h];have e:∀s,ZG.F x y (match s with | .start =>.start | .l1 a =>.l1 a)=(ZO.F x y s).map (fun r=>match r with | .inl (.start) =>.inl (.start) | .inl (.l1 a) =>.inl (.l1 a) | .inr b =>.inr b):=by
  intro s;cases s with
  |start=>dsimp only[ZG.F,ZO.F];split<;>rfl
  |l1 a=>
   dsimp only[ZG.F,ZO.F];split
   ·cases elt x a with
    |none=>rfl
    |some u=>
     cases elt y a with
     |none=>rfl
     |some v=>simp only[bS];split<;>rfl
   ·rfl
 unfold ZG.f ZO.f;by_cases hl:x.length=y.length
 ·rw[Ze (F:=ZO.F x y) (t :=.l1 ((0:Nat):Int)) (by dsimp only[ZO.F];rw[if_neg (by omega)];rfl)];rw[Ze (F:=ZG.F x y) (t :=.l1 ((0:Nat):Int)) (by dsimp only[ZG.F];rw[if_neg (by omega)];rfl)];have key:∀n k,x.length-k=n→Zw (ZO.F x y) (.l1 (k:Int))=Zw (ZG.F x y) (.l1 (k:Int)):=by
   intro n;induction n with
   |zero=>
    intro k hk;rw[Zf (F:=ZO.F x y) (r:=true) (by dsimp only[ZO.F];rw[if_neg (by omega)]),Zf (F:=ZG.F x y) (r:=true) (by dsimp only[ZG.F];rw[if_neg (by omega)])]
   |succ n ih=>
    intro k hk;have h1:k<x.length:=by omega
    have h2:k<y.length:=by omega
    by_cases e:x[k]=y[k]
    ·rw[Ze (F:=ZO.F x y) (t :=.l1 ((k+1:Nat):Int)) (by dsimp only[ZO.F];rw[if_pos (by omega),Zy h1,Zy h2];simp only[bS];rw[if_neg (by simpa using e),Zu k (by omega)]),Ze (F:=ZG.F x y) (t :=.l1 ((k+1:Nat):Int)) (by dsimp only[ZG.F];rw[if_pos (by omega),Zy h1,Zy h2];simp only[bS];rw[if_neg (by simpa using e),Zu k (by omega)])];exact ih (k+1) (by omega)
    ·rw[Zf (F:=ZO.F x y) (r:=false) (by dsimp only[ZO.F];rw[if_pos (by omega),Zy h1,Zy h2];simp only[bS];rw[if_pos (by simpa using e)]),Zf (F:=ZG.F x y) (r:=false) (by dsimp only[ZG.F];rw[if_pos (by omega),Zy h1,Zy h2];simp only[bS];rw[if_pos (by simpa using e)])]
  exact key _ 0 rfl
 ·rw[Zf (F:=ZO.F x y) (r:=false) (by dsimp only[ZO.F];rw[if_pos (by omega)]),Zf (F:=ZG.F x y) (r:=false) (by dsimp only[ZG.F];rw[if_pos (by omega)])]
end Y8
namespace Y8
open Zz
structure Alike(E E':TE):Prop where
 G:E'.G.length=E.G.length
 G1:∀a,(At E'.G Zp.zero a).Kind=(At E.G Zp.zero a).Kind
 P:E'.P.length=E.P.length
 P1:∀a,(At E'.P Zp.zero a).Kind=(At E.P Zp.zero a).Kind
 M:E'.M.length=E.M.length
 M1:∀a,(At E'.M Zb.zero a).Args=(At E.M Zb.zero a).Args∧(At E'.M Zb.zero a).Result=(At E.M Zb.zero a).Result
 res:E'.res=E.res
 K:E'.K=E.K
theorem Alike.named{E E':TE}(h:Alike E E')(i:Z7):named E' i=named E i:=by
 unfold Y8.named;rw[h.G1,h.P1,h.K]
theorem Alike.shape{E E':TE}(h:Alike E E')(i:Z7)(row:List Int):Um E' i row=Um E i row:=by
 unfold Um;rw[h.named,(h.M1 i.A).1,(h.M1 i.A).2,h.res]
theorem Alike.after{E E':TE}(h:Alike E E')(i:Z7)(row:List Int):XZ E' i row=XZ E i row:=by
 unfold XZ;rw[h.shape]
theorem Alike.place{E E':TE}(h:Alike E E')(l:List Z7)(rows:List Zi)(k:Nat):Tz E' l rows k=Tz E l rows k:=by
 unfold Tz;rw[h.after]
theorem Alike.at{E E':TE}(h:Alike E E')(l:List Z7):∀k,Xy E' l k=Xy E l k
 | 0=>rfl
 |k+1=>by unfold Xy;rw[h.at l k,h.place]
theorem Alike.rows{E E':TE}(h:Alike E E')(l:List Z7):Jt E' l=Jt E l:=by
 unfold Jt;rw[h.at]
end Y8
namespace Y8
open Zz
theorem Z2f{s:List Int}{k:Int}(h:s.length≤100000):Xa.f s k=some (s ++ [k]):=by
 unfold Xa.f;rw[if_pos (by simp;omega),if_pos (by simp;omega)];rfl
theorem ZhA{x:Zb}(h:x.Args.length+x.Zk.length≤1000):Ta.f x=some (x.Args++x.Zk):=by
 unfold Ta.f;rw[if_pos (by simp;omega),if_pos (by simp;omega)];rfl
theorem ZhB{m:Zc}{x:Zb}(i:Z7)(h:x.Args.length+x.Zk.length≤1000):XB.f m x i=some (there (Yw m x) i):=by
 have w:IntKind.i64.wrap ((x.Args.length:Int)+(x.Zk.length:Int))=((x.Args++x.Zk).length:Int):=by rw[ZW (by omega) (by omega),List.length_append];omega
 unfold XB.f XB.j1 XB.j2 there;rw[w];by_cases h1:i.Op=1
 ·simp[h1,Yw];rfl
 ·by_cases h2:i.Op=2
  ·simp[h2,Yw]
  ·by_cases h3:i.Op=3
   ·simp[h3,Yw]
   ·by_cases h4:i.Op=4
    ·simp[h4,Yw];rfl
    ·by_cases h5:i.Op=5
     ·simp[h5,Yw];rfl
     ·by_cases h6:i.Op=30
      ·simp[h6,Yw];rfl
      ·simp[h1,h2,h3,h4,h5,h6]
theorem Zdo{row:List Int}{k:Int}(hl:row.length≤100000):Wt.f row k=some (if h:row.length=0 then([],101)else if k=0∨k=row[row.length-1]'(by omega)then(row.take (row.length-1),0)else([],100)):=by
 unfold Wt.f;by_cases h:row.length=0
 ·rw[if_pos (by omega),dif_pos h]
 ·rw[if_neg (by omega),dif_neg h];have w1:IntKind.i64.wrap ((row.length:Int)-1)=((row.length-1:Nat):Int):=by rw[ZW (by omega) (by omega)];omega
  rw[w1,Zy (by omega)];simp only[bS];have et:((row.length-1:Nat):Int).toNat=row.length-1:=by omega
  by_cases h0:k=0
  ·rw[if_neg (by simpa using h0),if_pos (show k=0∨k=row[row.length-1]'(by omega) from .inl h0),bS,if_neg (by simp),if_pos (by omega),et]
  ·rw[if_pos h0];simp only[bS];by_cases h1:k=row[row.length-1]'(by omega)
   ·rw[if_neg (by simp[←h1]),if_pos (show k=0∨k=row[row.length-1]'(by omega) from .inr h1),if_pos (by omega),et]
   ·rw[if_pos (by simpa using fun e=>h1 e.symm),if_neg (show ¬(k=0∨k=row[row.length-1]'(by omega)) from fun h=>h.elim h0 h1)]
theorem Z6c{t row:List Int}(h:t.length≤row.length):Z4I t row=true↔∀k (hk:k<t.length),t[t.length-1-k]'(by omega)=0∨t[t.length-1-k]'(by omega)=row[row.length-1-k]'(by omega):=by
 unfold Z4I;rw[List.all_eq_true];constructor
 ·intro ha k hk;have hz:t.length-1-k<(t.zip (row.drop (row.length-t.length))).length:=by simp;omega
  have:=ha _ (List.getElem_mem hz);rw[List.getElem_zip,List.getElem_drop,decide_eq_true_eq]at this;have e:row.length-t.length+(t.length-1-k)=row.length-1-k:=by omega
  simp only[e]at this;exact this
 ·intro ha z hz;obtain⟨q,hq,rfl⟩:=List.mem_iff_getElem.1 hz;have hq':q<t.length:=by simp at hq;omega
  rw[List.getElem_zip,List.getElem_drop,decide_eq_true_eq];have:=ha (t.length-1-q) (by omega);have e1:t.length-1-(t.length-1-q)=q:=by omega
  have e2:row.length-1-(t.length-1-q)=row.length-t.length+q:=by omega
  simp only[e1,e2]at this;exact this
def takeC(t row:List Int):List Int×Int:=if row.length<t.length then([],101)else if Z4I t row=true then(row.take (row.length-t.length),0)else([],100)
theorem ZdI{row:List Int}{k:Int}(hl:row.length≤100000):Wt.f row k=some (takeC [k] row):=by
 rw[Zdo hl];unfold takeC;by_cases h:row.length=0
 ·rw[dif_pos h,if_pos (by rw[List.length_singleton];omega)]
 ·rw[dif_neg h,if_neg (show ¬row.length<([k]:List Int).length by rw[List.length_singleton];omega)];have hb:=Z6c (t:=[k]) (row:=row) (by rw[List.length_singleton];omega);by_cases h1:k=0∨k=row[row.length-1]'(by omega)
  ·rw[if_pos h1,if_pos (hb.2 fun j hj=>by
    obtain rfl:j=0:=by simpa using hj
    simpa using h1)]
   rfl
  ·rw[if_neg h1,if_neg (fun h=>h1 (by simpa using hb.1 h 0 (by simp)))]
theorem ZhC{t row:List Int}(hl:row.length≤100000)(ht:t.length<4611686018427387904):YL.f row t=some (takeC t row):=by
 unfold YL.f takeC;by_cases hlt:row.length<t.length
 ·rw[if_pos hlt,Zf];dsimp only[YL.F];rw[if_pos (by omega)]
 ·rw[if_neg hlt,Ze (t :=.l1 (row.take (row.length-0)) ((t.length:Int)-1-((0:Nat):Int))) (by
   dsimp only[YL.F];rw[if_neg (by omega),ZW (by omega) (by omega),Nat.sub_zero,List.take_length];simp)]
  have step:∀k (hk:k<t.length),YL.F row t (.l1 (row.take (row.length-k)) ((t.length:Int)-1-(k:Int)))=if t[t.length-1-k]'(by omega)=0∨t[t.length-1-k]'(by omega)=row[row.length-1-k]'(by omega)then some (.inl (.l1 (row.take (row.length-(k+1))) ((t.length:Int)-1-((k+1:Nat):Int))))else some (.inr ([],100)):=by
   intro k hk;dsimp only[YL.F];have e1:(t.length:Int)-1-(k:Int)=((t.length-1-k:Nat):Int):=by omega
   rw[if_pos (by omega),e1,Zy (by omega)];simp only[bS];have hlen:(row.take (row.length-k)).length=row.length-k:=by rw[List.length_take];omega
   rw[Zdo (by rw[hlen];omega),bS,dif_neg (by rw[hlen];omega)];have e2:(row.take (row.length-k))[(row.take (row.length-k)).length-1]'(by rw[hlen];omega)=row[row.length-1-k]'(by omega):=by
    rw[List.getElem_take];have:(row.take (row.length-k)).length-1=row.length-1-k:=by rw[hlen];omega
    simp only[this]
   rw[e2];have e3:(row.take (row.length-k)).take ((row.take (row.length-k)).length-1)=row.take (row.length-(k+1)):=by
    rw[hlen,List.take_take];congr 1;omega
   rw[e3];have e4:IntKind.i64.wrap (((t.length-1-k:Nat):Int)-1)=(t.length:Int)-1-((k+1:Nat):Int):=by rw[ZW (by omega) (by omega)];omega
   rw[e4];by_cases hc:t[t.length-1-k]'(by omega)=0∨t[t.length-1-k]'(by omega)=row[row.length-1-k]'(by omega)
   ·rw[if_pos hc,if_pos hc];rfl
   ·rw[if_neg hc,if_neg hc];rfl
  obtain⟨a1,a2⟩:=Tx (F:=YL.F row t) (n:=t.length) (b:=([],100)) (fun k =>.l1 (row.take (row.length-k)) ((t.length:Int)-1-(k:Int))) (fun k=>∀hk:k<t.length,t[t.length-1-k]'(by omega)=0∨t[t.length-1-k]'(by omega)=row[row.length-1-k]'(by omega)) (fun k hk _ hp=>by
   refine Ze ?_;rw[step k hk,if_pos (hp hk)]) (fun k hk _ hp=>by
   refine Zf ?_;rw[step k hk,if_neg (fun h=>hp fun _=>h)])
  have hb:=Z6c (t:=t) (row:=row) (by omega);by_cases hall:Z4I t row=true
  ·rw[if_pos hall];refine(a1 fun k hk _=>hb.1 hall k hk).trans (Zf ?_);dsimp only[YL.F];rw[if_neg (by omega)]
  ·rw[if_neg hall];exact a2 fun h=>hall (hb.2 fun k hk=>h k hk hk)
def ZaF(c:Int):Int:=if c=110 then 1 else if c=112 then 2 else if c=114 then 3 else 0
theorem letter_eq(c:Int):UD.f c=some (ZaF c):=by
 unfold UD.f ZaF;split
 ·rfl
 ·split
  ·rfl
  ·split<;>rfl
def Z3z(s:ByteArray):List Int:=(List.range s.size).map fun(k:Nat)=>ZaF ((Z5G s (k:Int)).getD 0)
theorem Z9w{s:ByteArray}(h:s.size≤1000):XC.f s=some (Z3z s):=by
 unfold XC.f;rw[Ze (t :=.l1 ((Z3z s).take 0) ((0:Nat):Int)) rfl];have hl:(Z3z s).length=s.size:=by simp[Z3z]
 refine(TF (F:=XC.F s) (n:=s.size) (fun k =>.l1 ((Z3z s).take k) (k:Int)) (fun k hk=>?_)).trans (Zf ?_)
 ·dsimp only[XC.F];have hs:Z5G s (k:Int)=some ((Z5G s (k:Int)).getD 0):=by
   unfold Z5G;rw[dif_pos ⟨by omega,by omega⟩];rfl
  rw[if_pos (by omega),hs,bS,letter_eq,bS,if_pos (by simp;omega),Zu k (by omega),take_succ _ k (by omega)];simp[Z3z]
 ·dsimp only[XC.F];rw[if_neg (by omega),List.take_of_length_le (by omega)]
def ZhD(n:Nat):Bool:=match Y7.f (n:Int),Wd.f (n:Int)with
 |some t,some s=>decide (t.1.size≤10∧t.2.size≤10)&&(if(t.1.toList==(⟨#[63]⟩:ByteArray).toList)=true then !s.2 else s.2&&decide (Z3z t.1=s.1.Takes∧Z3z t.2=s.1.Gives))
 | _,_=>false
theorem ZdJ(n:Fin 33):ZhD n.1=true:=by revert n;decide +kernel
theorem ZoF{x:Int}(h0:0≤x)(h1:x<33){s:WY×Bool}(hs:Wd.f x=some s)(h2:s.2=true):Kr.f x=some (s.1.Takes,s.1.Gives,true):=by
 obtain⟨n,rfl⟩:=Int.eq_ofNat_of_zero_le h0;have hb:=ZdJ ⟨n,by omega⟩;unfold ZhD at hb;dsimp only at hb;rw[hs]at hb;unfold Kr.f;cases ht:Y7.f (n:Int)with
 |none=>rw[ht]at hb;cases hb
 |some t=>
  rw[ht]at hb;dsimp only at hb;rw[Bool.and_eq_true,decide_eq_true_eq]at hb;obtain⟨⟨b1,b2⟩,hb⟩:=hb;simp only[bS];by_cases hq:(t.1.toList==(⟨#[63]⟩:ByteArray).toList)=true
  ·rw[if_pos hq,h2]at hb;cases hb
  ·rw[if_neg hq,h2,Bool.true_and,decide_eq_true_eq]at hb;rw[if_neg hq,Z9w (by omega),bS,Z9w (by omega),bS,hb.1,hb.2]
end Y8
namespace Y8
open Zz
theorem after_take(E:TE)(i:Z7)(row:List Int):XZ E i row=if(takeC (Um E i row).1 row).2≠0 then([],(takeC (Um E i row).1 row).2)else((takeC (Um E i row).1 row).1++(Um E i row).2,0):=by
 unfold XZ takeC;by_cases h1:row.length<(Um E i row).1.length
 ·rw[if_pos h1,if_pos h1];rfl
 ·rw[if_neg h1,if_neg h1];by_cases h2:Z4I (Um E i row).1 row=true
  ·rw[if_pos h2,if_pos h2];rfl
  ·rw[if_neg h2,if_neg h2];rfl
theorem Z7c(row:List Int):takeC [] row=(row,0):=by
 unfold takeC;rw[if_neg (by simp),if_pos (by rfl)];simp
theorem Z85{t row:List Int}(h:∀z∈t,z=0):takeC t row=if row.length<t.length then([],101)else(row.take (row.length-t.length),0):=by
 unfold takeC;by_cases h1:row.length<t.length
 ·rw[if_pos h1,if_pos h1]
 ·rw[if_neg h1,if_neg h1,if_pos ((Z6c (by omega)).2 fun k hk =>.inl (h _ (List.getElem_mem _)))]
theorem ZhE{t row:List Int}:(takeC t row).1.length≤row.length:=by
 unfold takeC;split
 ·simp
 ·split
  ·rw[List.length_take];omega
  ·simp
theorem ZhF{m:Zc}{x:Zb}{i:Z7}{s:List Int}(hw:Y5 i)(hm:may i=true)(ht:there (Yw m x) i=true)(hM:∀y∈m.Methods,y.Args.length<4611686018427387904)(hs:s.length≤1000)(hl:x.Args.length+x.Zk.length≤1000) :
    Yh.f m x i s=some (XZ (Yw m x) i s):=by
 obtain⟨o0,o1⟩:=Z9t hw hm;obtain⟨sh,hsh,hc⟩:=Z7H o0 o1;have hg:=Z72 (E:=Yw m x) (row:=s) hw hm;have htk:=Zb3 (E:=Yw m x) (row:=s) hw hm hM;have ha:=after_take (Yw m x) i s;generalize hshape:Um (Yw m x) i s=shp at ha hg htk
 obtain⟨t,v⟩:=shp;dsimp only at ha hg htk;rw[ha];have htake:=ZhC (row:=s) (t:=t) (by omega) htk;have htl:=ZhE (t:=t) (row:=s);unfold Um at hshape;rw[hsh]at hshape;dsimp only at hshape;unfold Yh.f;have one:∀k:Int,t=[k]→v=[]→∀r,Yh.F m x i s .start=r→r=((Wt.f s k).bind fun t27=>some (.inr (t27.1,t27.2)))→Zw (Yh.F m x i s) .start=some (if(takeC t s).2≠0 then([],(takeC t s).2)else((takeC t s).1++v,0)):=by
  rintro k rfl rfl r h1 h2;refine Zf ?_;rw[h1,h2,ZdI (by omega)];simp only[bS];congr 2;by_cases he:(takeC [k] s).2≠0
  ·rw[if_pos he];have:(takeC [k] s).1=[]:=by
    unfold takeC at he ⊢;split
    ·rfl
    ·rename_i q1
     rw[if_neg q1]at he;split
     ·rename_i q2
      rw[if_pos q2]at he;exact absurd rfl he
     ·rfl
   rw[this]
  ·rw[if_neg he,List.append_nil];have:=Classical.not_not.1 he;rw[this]
 rcases hc with ⟨h2,hc1,hc2,hc3⟩|⟨rfl,ho⟩
 ·rw[if_pos h2]at hshape;obtain⟨rfl,rfl⟩:=Prod.mk.inj hshape;have hno:i.Op≠1∧i.Op≠2∧i.Op≠3∧i.Op≠4∧i.Op≠5∧i.Op≠7∧i.Op≠8∧i.Op≠30:=by
   refine⟨?_,?_,?_,?_,?_,?_,?_,?_⟩<;>intro e<;>rw[e]at hsh<;>have hz:=congrArg (fun o=>o.map (·.2)) hsh<;>revert hz<;>simp only[Option.map_some,h2]<;>decide +kernel
  obtain⟨n1,n2,n3,n4,n5,n7,n8,n30⟩:=hno;have hstart:Yh.F m x i s .start=if(takeC sh.1.Takes s).2≠0 then some (.inr ([],(takeC sh.1.Takes s).2))else some (.inl (.l1 (sh.1.Takes,sh.1.Gives,true) (takeC sh.1.Takes s).1 0)):=by
   dsimp only[Yh.F];rw[if_neg n1,if_neg n2,if_neg n3,if_neg n4,if_neg n5,if_neg n7,if_neg n8,if_neg n30,if_neg hc3,ZoF o0 o1 hsh h2];simp only[bS];rw[htake];simp only[bS]
  by_cases he:(takeC sh.1.Takes s).2≠0
  ·rw[if_pos he]at hstart ⊢;exact Zf hstart
  ·rw[if_neg he]at hstart ⊢;rw[Ze hstart];generalize (takeC sh.1.Takes s).1=left at htl
   have e0:left=left++sh.1.Gives.take 0:=by simp
   have key:=TF (F:=Yh.F m x i s) (n:=sh.1.Gives.length) (fun k =>.l1 (sh.1.Takes,sh.1.Gives,true) (left++sh.1.Gives.take k) (k:Int)) (fun k hk=>by
    dsimp only[Yh.F];rw[if_pos (by omega),Zy hk];simp only[bS];rw[Z2f (by rw[List.length_append,List.length_take];omega)];simp only[bS];rw[Zu k (by omega),take_succ _ k hk,List.append_assoc])
   rw[List.take_zero,List.append_nil,List.take_length]at key;refine Eq.trans key (Zf ?_);dsimp only[Yh.F];rw[if_neg (by omega)]
 ·simp only[Bool.false_eq_true,if_false]at hshape;by_cases h1:i.Op=1
  ·rw[if_pos (.inl h1)]at hshape;obtain⟨rfl,rfl⟩:=Prod.mk.inj hshape;have a0:=Z03 hw hm (by omega);have a1:i.A<m.Pool.length:=by have:=ht;simp only[there,h1,Yw,if_true]at this;exact of_decide_eq_true this
   rw[Z7c];refine Zf ?_;dsimp only[Yh.F];rw[if_pos h1,JM Zp.zero a0 a1];simp only[bS];rw[Z2f (by omega)];simp[named,h1,Yw]
  ·by_cases h2:i.Op=2
   ·rw[if_pos (.inr (.inl h2))]at hshape;obtain⟨rfl,rfl⟩:=Prod.mk.inj hshape;have a0:=Z03 hw hm (by omega);have a1:i.A<(x.Args++x.Zk).length:=by have:=ht;simp[there,h2,Yw]at this;simpa using this
    rw[Z7c];refine Zf ?_;dsimp only[Yh.F];unfold VW.f;rw[if_neg h1,if_pos h2,ZhA hl];simp only[bS];rw[JM 0 a0 a1];simp only[bS];rw[Z2f (by omega)];simp[named,h2,Yw]
   ·by_cases h4:i.Op=4
    ·rw[if_pos (.inr (.inr h4))]at hshape;obtain⟨rfl,rfl⟩:=Prod.mk.inj hshape;have a0:=Z03 hw hm (by omega);have a1:i.A<m.ZA.length:=by have:=ht;simp[there,h4,Yw]at this;exact of_decide_eq_true this
     rw[Z7c];refine Zf ?_;dsimp only[Yh.F];rw[if_neg h1,if_neg h2,if_neg (by omega),if_pos h4,JM Zp.zero a0 a1];simp only[bS];rw[Z2f (by omega)];simp[named,h4,Yw]
    ·rw[if_neg (by omega)]at hshape;by_cases h3:i.Op=3
     ·rw[if_pos (.inl h3)]at hshape;obtain⟨rfl,rfl⟩:=Prod.mk.inj hshape;have a0:=Z03 hw hm (by omega);have a1:i.A<(x.Args++x.Zk).length:=by have:=ht;simp[there,h3,Yw]at this;simpa using this
      refine one (named (Yw m x) i) rfl rfl _ rfl ?_;dsimp only[Yh.F];unfold VW.f;rw[if_neg h1,if_neg h2,if_pos h3,ZhA hl];simp only[bS];rw[JM 0 a0 a1];simp only[bS];have e:named (Yw m x) i=At (x.Args++x.Zk) 0 i.A:=by simp[named,h3,Yw]
      rw[e]
     ·by_cases h5:i.Op=5
      ·rw[if_pos (.inr h5)]at hshape;obtain⟨rfl,rfl⟩:=Prod.mk.inj hshape;have a0:=Z03 hw hm (by omega);have a1:i.A<m.ZA.length:=by have:=ht;simp[there,h5,Yw]at this;exact of_decide_eq_true this
       refine one (named (Yw m x) i) rfl rfl _ rfl ?_;dsimp only[Yh.F];rw[if_neg h1,if_neg h2,if_neg h3,if_neg h4,if_pos h5,JM Zp.zero a0 a1];simp only[bS];have e:named (Yw m x) i=(At m.ZA Zp.zero i.A).Kind:=by simp[named,h5,Yw]
       rw[e]
      ·rw[if_neg (by omega)]at hshape;by_cases JN:i.Op=30
       ·rw[if_pos JN]at hshape;obtain⟨rfl,rfl⟩:=Prod.mk.inj hshape;have a0:=Z03 hw hm (by omega);have a1:i.A<m.Methods.length:=by have:=ht;simp[there,JN,Yw]at this;exact of_decide_eq_true this
        have htake:YL.f s (At m.Methods Zb.zero i.A).Args=some (takeC (At m.Methods Zb.zero i.A).Args s):=htake;show _=some (if(takeC (At m.Methods Zb.zero i.A).Args s).2≠0 then([],(takeC (At m.Methods Zb.zero i.A).Args s).2)else((takeC (At m.Methods Zb.zero i.A).Args s).1 ++ [(At m.Methods Zb.zero i.A).Result],0));refine Zf ?_;dsimp only[Yh.F];rw[if_neg h1,if_neg h2,if_neg h3,if_neg h4,if_neg h5,if_neg (by omega),if_neg (by omega),if_pos JN,JM Zb.zero a0 a1];simp only[bS];rw[htake];simp only[bS];have htl:(takeC (At m.Methods Zb.zero i.A).Args s).1.length≤s.length:=htl;by_cases he:(takeC (At m.Methods Zb.zero i.A).Args s).2≠0
        ·rw[if_pos he,if_pos he]
        ·rw[if_neg he,if_neg he,Z2f (by omega)];rfl
       ·rw[if_neg JN]at hshape;by_cases h31:i.Op=31
        ·rw[if_pos h31]at hshape;obtain⟨rfl,rfl⟩:=Prod.mk.inj hshape;refine one x.Result rfl rfl _ rfl ?_;dsimp only[Yh.F];rw[if_neg h1,if_neg h2,if_neg h3,if_neg h4,if_neg h5,if_neg (by omega),if_neg (by omega),if_neg (by omega),if_pos h31]
        ·rw[if_neg h31]at hshape;by_cases h8:i.Op=8
         ·rw[if_pos h8]at hshape;obtain⟨rfl,rfl⟩:=Prod.mk.inj hshape;rw[Z85 (by simp)];refine Zf ?_;dsimp only[Yh.F];rw[if_neg h1,if_neg h2,if_neg h3,if_neg h4,if_neg h5,if_neg (by omega),if_pos h8];by_cases hlen:s.length<2
          ·rw[if_pos (by omega),if_pos (show s.length<([0,0]:List Int).length from hlen)];rfl
          ·rw[if_neg (by omega),if_neg (show ¬s.length<([0,0]:List Int).length from hlen)];have w1:IntKind.i64.wrap ((s.length:Int)-1)=((s.length-1:Nat):Int):=by rw[ZW (by omega) (by omega)];omega
           have w2:IntKind.i64.wrap ((s.length:Int)-2)=((s.length-2:Nat):Int):=by rw[ZW (by omega) (by omega)];omega
           have hrev:two s=[s[s.length-2]'(by omega),s[s.length-1]'(by omega)]:=by
            unfold two;rw[List.drop_eq_getElem_cons (by omega),List.drop_eq_getElem_cons (by omega),List.drop_eq_nil_of_le (by omega)];have:s.length-2+1=s.length-1:=by omega
            simp only[this]
           rw[w1,w2,Zy (by omega),Zy (by omega)];simp only[bS];rw[if_pos (by omega),show((s.length-2:Nat):Int).toNat=s.length-2 from by omega,Z2f (by rw[List.length_take];omega)];simp only[bS];rw[Z2f (by rw[List.length_append,List.length_take];simp;omega)];simp only[bS];rw[hrev];simp
         ·rw[if_neg h8]at hshape;have h7:i.Op=7:=by omega
          obtain⟨rfl,rfl⟩:=Prod.mk.inj hshape;rw[Z85 (by simp)];refine Zf ?_;dsimp only[Yh.F];rw[if_neg h1,if_neg h2,if_neg h3,if_neg h4,if_neg h5,if_pos h7];by_cases hlen:s.length<1
          ·rw[if_pos (by omega),if_pos (show s.length<([0]:List Int).length from hlen)];rfl
          ·rw[if_neg (by omega),if_neg (show ¬s.length<([0]:List Int).length from hlen)];have hne:s≠[]:=by rintro rfl;simp at hlen
           have w1:IntKind.i64.wrap ((s.length:Int)-1)=((s.length-1:Nat):Int):=by rw[ZW (by omega) (by omega)];omega
           have hlast:s.getLastD 0=s[s.length-1]'(by omega):=by
            rw[List.getLastD_eq_getLast?,List.getLast?_eq_getElem?,List.getElem?_eq_getElem (by omega)];rfl
           have hs2:∀e,s[s.length-1]'(by omega)=e→s=s.take (s.length-1) ++ [e]:=by
            rintro e rfl;have:=take_succ s (s.length-1) (by omega);rw[show s.length-1+1=s.length from by omega,List.take_length]at this;exact this
           rw[w1,Zy (by omega)];simp only[bS];rw[Z2f (by omega)];simp only[bS];rw[if_neg hne,hlast];have h9:=hs2 _ rfl;generalize s[s.length-1]'(by omega)=e at h9 ⊢
           have:s ++ [e]=s.take (s.length-([0]:List Int).length) ++ [e,e]:=by
            conv=>lhs;rw[h9]
            simp
           rw[this];rfl
end Y8
namespace Y8
open Zz
def conv(r:Zi):ZI:=⟨r.Reached,r.Kinds⟩
def cv(rows:List Zi)(n:Nat):List ZI:=(rows.take n).map conv
theorem Z9x{rows:List Zi}{n:Nat}(h:n≤rows.length):(cv rows n).length=n:=by unfold cv;rw[List.length_map,List.length_take];omega
theorem ZhG{rows:List Zi}{n:Nat}{w:Int}(h0:0≤w)(h1:w<n)(h:n≤rows.length):elt (cv rows n) w=some (conv (At rows R0 w)):=by
 have hr:w.toNat<rows.length:=by omega
 have e:elt (cv rows n) ((w.toNat:Nat):Int)=(cv rows n)[w.toNat]?:=Z5i _ _;rw[show((w.toNat:Nat):Int)=w from by omega]at e;rw[e];unfold cv At;rw[List.getElem?_map,List.getElem?_take_of_lt (by omega),List.getElem?_eq_getElem hr];rfl
theorem ZhH(rows:List Zi)(n:Nat)(w:Nat)(v:Zi):(cv rows n).set w (conv v)=cv (rows.set w v) n:=by
 unfold cv;rw[List.take_set,List.map_set]
theorem Zle{m:Zc}{k:Int}{x:Zb}{a:Nat}(W:Well (Yw m x) x.Code)(ha:a<x.Code.length){t:(List Int)×Int}(htl:t.1.length≤1000):∀(ws:List Int) (j:Nat) (rs:List Zi),(Zz.ways x.Code a).drop j=ws→rs.length=200→(∀r∈rs,r.Kinds.length≤1000) →
    Zw (ZB.F m k) (.l3 x (a:Int) t (Zz.ways x.Code a,0) (cv rs x.Code.length) (j:Int))=if(put t.1 rs ws).1≠0 then some ([],(put t.1 rs ws).1)else Zw (ZB.F m k) (.l2 x (cv (put t.1 rs ws).2 x.Code.length) ((a+1:Nat):Int)):=by
 have hn:x.Code.length≤200:=W.known.2.1;have hf:=Z42 W.known W.fine ha;intro ws;induction ws with
 |nil=>
  intro j rs hd hrs _;have hj:(Zz.ways x.Code a).length≤j:=by simpa using hd
  rw[show put t.1 rs []=(0,rs) from rfl,if_neg (by simp)];refine Ze ?_;dsimp only[ZB.F];rw[if_neg (by omega)];unfold ZB.j1;rw[Zu a (by omega)]
 |cons w ws ih=>
  intro j rs hd hrs hsz;have hj:j<(Zz.ways x.Code a).length:=by
   rcases Nat.lt_or_ge j (Zz.ways x.Code a).length with z|z
   ·exact z
   ·rw[List.drop_eq_nil_of_le z]at hd;cases hd
  have hw':(Zz.ways x.Code a)[j]=w:=by
   have:=congrArg (fun z=>z[0]?) hd;simp[List.getElem?_eq_getElem hj]at this;exact this
  obtain⟨w0,w1,-⟩:=hf.2.2 j hj;rw[hw']at w0 w1;have hle:=hf.2.1;have hlen:x.Code.length≤rs.length:=by rw[hrs];exact hn
  have hel:elt (cv rs x.Code.length) w=some (conv (At rs R0 w)):=ZhG w0 w1 hlen;have hks:ZO.f (At rs R0 w).Kinds t.1=some (decide ((At rs R0 w).Kinds=t.1)):=Z6b (by
   have:(At rs R0 w).Kinds.length≤1000:=Zdh (p:=fun r:Zi=>r.Kinds.length≤1000) (by simp[R0,Zi.zero]) hsz;omega)
  have step:∀b:Bool,b=decide ((At rs R0 w).Reached=true∧(At rs R0 w).Kinds≠t.1)→ZB.F m k (.l3 x (a:Int) t (Zz.ways x.Code a,0) (cv rs x.Code.length) (j:Int))=if b=true then some (.inr ([],100))else some (.inl (.l3 x (a:Int) t (Zz.ways x.Code a,0) (cv (rs.set w.toNat ⟨true,t.1⟩) x.Code.length) ((j+1:Nat):Int))):=by
   rintro b rfl;dsimp only[ZB.F];rw[if_pos (by omega),Zy hj,hw',bS,hel];simp only[bS];have tail:(if(([]:List Int).length+t.1.length)*1≤140737488355328 then((elt ((cv rs x.Code.length).set w.toNat ({ conv (At rs R0 w)with Reached:=true }:ZI)) w).bind fun x400=>some (.inl (.l3 x (a:Int) t (Zz.ways x.Code a,0) (((cv rs x.Code.length).set w.toNat ({ conv (At rs R0 w)with Reached:=true }:ZI)).set w.toNat ({ x400 with Kinds:=([]:List Int)++t.1 }:ZI)) (IntKind.i64.wrap ((j:Int)+1)))))else none)=(some (.inl (.l3 x (a:Int) t (Zz.ways x.Code a,0) (cv (rs.set w.toNat ⟨true,t.1⟩) x.Code.length) ((j+1:Nat):Int))):Option (ZB.S⊕((List ZI)×Int))):=by
    have hwl:w.toNat<((cv rs x.Code.length).set w.toNat ({ conv (At rs R0 w)with Reached:=true }:ZI)).length:=by rw[List.length_set,Z9x hlen];omega
    rw[if_pos (by simp;omega),Uu w0 hwl,List.getElem_set_self,bS,List.set_set,Zu j (by omega),←ZhH];rfl
   by_cases q1:(At rs R0 w).Reached=true
   ·rw[if_pos (show(conv (At rs R0 w)).Reached=true from q1)];show((ZO.f (At rs R0 w).Kinds t.1).bind fun ZfD=>some (!ZfD)).bind _=_;rw[hks];simp only[bS];by_cases q2:(At rs R0 w).Kinds=t.1
    ·rw[if_neg (by simp[q2]),tail,if_neg (by simp[q2])]
    ·rw[if_pos (by simp[q2]),if_pos (by simp[q1,q2])]
   ·rw[if_neg (show ¬(conv (At rs R0 w)).Reached=true from q1),bS,if_neg (by simp),tail,if_neg (by simp[q1])]
  unfold put;by_cases hc:(At rs R0 w).Reached=true∧(At rs R0 w).Kinds≠t.1
  ·rw[if_pos hc,if_pos (show(100:Int)≠0 by omega)];refine Zf ?_;rw[step true (by rw[eq_comm,decide_eq_true_eq];exact hc),if_pos rfl]
  ·rw[if_neg hc];rw[Ze (t :=.l3 x (a:Int) t (Zz.ways x.Code a,0) (cv (rs.set w.toNat ⟨true,t.1⟩) x.Code.length) ((j+1:Nat):Int)) (by rw[step false (by rw[eq_comm,decide_eq_false_iff_not];exact hc),if_neg (by simp)])];refine ih (j+1) _ ?_ (by rw[List.length_set];exact hrs) fun r hr=>?_
   ·rw[←List.drop_drop,hd];rfl
   ·rcases List.mem_or_eq_of_mem_set hr with hr|rfl
    ·exact hsz r hr
    ·exact htl
theorem ZhI{m:Zc}{k:Int}{x:Zb}{a:Nat}(W:Well (Yw m x) x.Code)(ha:a<x.Code.length)(hl:x.Args.length+x.Zk.length≤1000){rows:List Zi}(h:Sz a rows) :
    Zw (ZB.F m k) (.l2 x (cv rows x.Code.length) (a:Int))=if(Tz (Yw m x) x.Code rows a).1≠0 then some ([],(Tz (Yw m x) x.Code rows a).1)else Zw (ZB.F m k) (.l2 x (cv (Tz (Yw m x) x.Code rows a).2 x.Code.length) ((a+1:Nat):Int)):=by
 have hn:x.Code.length≤200:=W.known.2.1;have hm:=W.known.2.2 _ (List.getElem_mem ha);have hw:=W.wf _ (List.getElem_mem ha);have ht:=W.th _ (List.getElem_mem ha);have hlen:x.Code.length≤rows.length:=by rw[h.1];exact hn
 have ha2:a<rows.length:=by omega
 have hr:rows[a].Kinds.length≤2*a:=h.2 _ (List.getElem_mem ha2);have hel:elt (cv rows x.Code.length) (a:Int)=some (conv rows[a]):=by
  rw[ZhG (by omega) (by omega) hlen,Z4J ha2]
 have hwy:=(Zjn (by omega) W.wf).2.2.2 a W.known W.fine ha;have hal:=Z73 (E:=Yw m x) (row:=rows[a].Kinds) hw hm;unfold Tz;rw[Z4J ha2,Z4J ha];by_cases hre:rows[a].Reached=true
 ·rw[if_pos hre];have haf:=ZhF (m:=m) (x:=x) (s:=rows[a].Kinds) hw hm ht W.M (by omega) hl;have hstart:ZB.F m k (.l2 x (cv rows x.Code.length) (a:Int))=if(XZ (Yw m x) x.Code[a] rows[a].Kinds).2≠0 then some (.inr ([],(XZ (Yw m x) x.Code[a] rows[a].Kinds).2))else some (.inl (.l3 x (a:Int) (XZ (Yw m x) x.Code[a] rows[a].Kinds) (Zz.ways x.Code a,0) (cv rows x.Code.length) ((0:Nat):Int))):=by
   dsimp only[ZB.F];rw[if_pos (by rw[Z9x hlen];omega),hel,bS,if_neg (by simp[conv,hre]),Zy ha];simp only[bS];have haf:Yh.f m x x.Code[a] (conv rows[a]).Kinds=some (XZ (Yw m x) x.Code[a] rows[a].Kinds):=haf;rw[haf,bS,hwy];rfl
  by_cases he:(XZ (Yw m x) x.Code[a] rows[a].Kinds).2≠0
  ·rw[if_pos he]at hstart ⊢;rw[if_pos he];exact Zf hstart
  ·rw[if_neg he]at hstart ⊢;rw[Ze hstart];exact Zle W ha (by omega) (Zz.ways x.Code a) 0 rows rfl h.1 fun r hr=>by have:=h.2 r hr;omega
 ·rw[if_neg hre,if_neg (by simp)];refine Ze ?_;dsimp only[ZB.F];rw[if_pos (by rw[Z9x hlen];omega),hel,bS,if_pos (by simpa[conv]using hre)];unfold ZB.j1;rw[Zu a (by omega)]
theorem Zb9{m:Zc}{k:Int}{x:Zb}(hn:x.Code.length≤200)(hl:x.Args.length+x.Zk.length≤1000):((∀i∈x.Code,there (Yw m x) i=true)→Zw (ZB.F m k) (.l1 x ((0:Nat):Int))=Zw (ZB.F m k) (.l1 x (x.Code.length:Int)))∧((∃i∈x.Code,there (Yw m x) i=false)→Zw (ZB.F m k) (.l1 x ((0:Nat):Int))=some ([],100)):=by
 have step:∀j (hj:j<x.Code.length),ZB.F m k (.l1 x (j:Int))=if there (Yw m x) x.Code[j]=true then some (.inl (.l1 x ((j+1:Nat):Int)))else some (.inr ([],100)):=by
  intro j hj;dsimp only[ZB.F];rw[if_pos (by omega),Zy hj,bS,ZhB _ hl,bS,Zu j (by omega)];cases there (Yw m x) x.Code[j]<;>rfl
 obtain⟨a1,a2⟩:=Tx (F:=ZB.F m k) (n:=x.Code.length) (b:=([],100)) (fun j =>.l1 x (j:Int)) (fun j=>∀hj:j<x.Code.length,there (Yw m x) x.Code[j]=true) (fun j hj _ hp=>Ze (by rw[step j hj,if_pos (hp hj)])) (fun j hj _ hp=>Zf (by rw[step j hj,if_neg (fun h=>hp fun _=>h)]));refine⟨fun h=>a1 fun j hj _=>h _ (List.getElem_mem hj),fun⟨i,hi,ht⟩=>a2 fun h=>?_⟩;obtain⟨j,hj,rfl⟩:=List.mem_iff_getElem.1 hi;rw[h j hj hj]at ht;cases ht
theorem Zjo{m:Zc}{k:Int}{x:Zb}(h0:0≤k)(h1:k<m.Methods.length)(hx:elt m.Methods k=some x)(hlen:x.Code.length<4611686018427387904)(hw:∀i∈x.Code,Y5 i)(hl:x.Args.length+x.Zk.length≤1000) :
    (¬Known x.Code→ZB.f m k=some ([],40))∧(Known x.Code→¬UK x.Code→ZB.f m k=some ([],90))∧(Known x.Code→UK x.Code→(∃i∈x.Code,there (Yw m x) i=false)→ZB.f m k=some ([],100)) ∧
    (Well (Yw m x) x.Code→ZB.f m k=some ((Jt (Yw m x) x.Code).1.map conv,(Jt (Yw m x) x.Code).2)):=by
 obtain⟨a1,a2,a3⟩:=Z54 hlen hw;have hstart:∀z,Zr.f x.Code=some z→ZB.F m k .start=if z.2≠0 then some (.inr ([],z.2))else some (.inl (.l1 x ((0:Nat):Int))):=by
  intro z hz;dsimp only[ZB.F];rw[if_neg (by simp;omega),hx,bS,hz];rfl
 unfold ZB.f;refine⟨fun h=>Zf ?_,fun h hf=>Zf ?_,fun h hf ht=>?_,fun W=>?_⟩
 ·rw[hstart _ (a1 h),if_pos (by simp)]
 ·rw[hstart _ (a3 h hf),if_pos (by simp)]
 ·rw[Ze (t :=.l1 x ((0:Nat):Int)) (by rw[hstart _ (a2 h hf),if_neg (by simp)])];exact(Zb9 h.2.1 hl).2 ht
 ·have hn:x.Code.length≤200:=W.known.2.1;have hp:1≤x.Code.length:=W.known.1;rw[Ze (t :=.l1 x ((0:Nat):Int)) (by rw[hstart _ (a2 W.known W.fine),if_neg (by simp)]),(Zb9 hn hl).1 W.th];have hz0:(List.replicate x.Code.length ZI.zero).set 0 ({ ZI.zero with Reached:=true }:ZI)=cv Z0k x.Code.length:=by
   unfold Z0k;rw[←ZhH];congr 1;unfold cv;rw[List.take_replicate,List.map_replicate,show min x.Code.length 200=x.Code.length from by omega];rfl
  rw[Ze (t :=.l2 x (cv Z0k x.Code.length) ((0:Nat):Int)) (by
   dsimp only[ZB.F];rw[if_neg (by omega),if_pos (by omega),show((x.Code.length:Int)).toNat=x.Code.length from by omega,show elt (List.replicate x.Code.length ZI.zero) 0=some ZI.zero from by
    have:=Zy (xs:=List.replicate x.Code.length ZI.zero) (k:=0) (by rw[List.length_replicate];omega);rw[List.getElem_replicate]at this;exact this,bS,show((0:Int)).toNat=0 from rfl,hz0];rfl)]
  have key:∀j,j≤x.Code.length→Zw (ZB.F m k) (.l2 x (cv Z0k x.Code.length) ((0:Nat):Int))=if(Xy (Yw m x) x.Code j).1≠0 then some ([],(Xy (Yw m x) x.Code j).1)else Zw (ZB.F m k) (.l2 x (cv (Xy (Yw m x) x.Code j).2 x.Code.length) (j:Int)):=by
   intro j;induction j with
   |zero=>intro _;rfl
   |succ j ih=>
    intro hj;rw[ih (by omega)];have hz:=Z2e W j (by omega);by_cases he:(Xy (Yw m x) x.Code j).1≠0
    ·have e1:Xy (Yw m x) x.Code (j+1)=Xy (Yw m x) x.Code j:=by rw[Xy,if_pos he]
     rw[e1,if_pos he,if_pos he]
    ·have e1:Xy (Yw m x) x.Code (j+1)=Tz (Yw m x) x.Code (Xy (Yw m x) x.Code j).2 j:=by rw[Xy,if_neg he]
     rw[e1,if_neg he];exact ZhI W (by omega) hl hz
  rw[key _ (Nat.le_refl _)];unfold Jt;by_cases he:(Xy (Yw m x) x.Code x.Code.length).1≠0
  ·rw[if_pos he,if_pos he];rfl
  ·rw[if_neg he,if_neg he];have hz:=Z2e W _ (Nat.le_refl _);refine Zf ?_;dsimp only[ZB.F];rw[if_neg (by rw[Z9x (by rw[hz.1];exact hn)];omega)];rfl
theorem ZfT{rows:List Zi}(h:rows.length<4611686018427387904):YJ.f (rows.map conv)=some (H rows rows.length):=by
 unfold YJ.f;rw[Ze (t :=.l1 (H rows 0) ((0:Nat):Int)) rfl];refine(TF (F:=YJ.F (rows.map conv)) (n:=rows.length) (fun k =>.l1 (H rows k) (k:Int)) (fun k hk=>?_)).trans (Zf ?_)
 ·dsimp only[YJ.F];have hl:k<(rows.map conv).length:=by rw[List.length_map];exact hk
  rw[if_pos (by rw[List.length_map];omega),Zy hl,List.getElem_map];simp only[bS];unfold YJ.j1;rw[Zu k (by omega)];rw[show H rows (k+1)=if((g rows k).Kinds.length:Int)>H rows k then((g rows k).Kinds.length:Int)else H rows k from rfl,ZfN hk];show(if(rows[k].Kinds.length:Int)>H rows k then(some (.inl (.l1 (rows[k].Kinds.length:Int) ((k+1:Nat):Int))):Option (YJ.S⊕Int))else some (.inl (.l1 (H rows k) ((k+1:Nat):Int))))=_;split<;>rfl
 ·dsimp only[YJ.F];rw[if_neg (by rw[List.length_map];omega)]
end Y8
namespace Zz
theorem Zba{l:List Z7}(hlen:l.length<4611686018427387904)(hw:∀x∈l,Y5 x) :
    (¬Known l→Y2.f l=some ([],40))∧(Known l→UK l→Y2.f l=some (tms l,0))∧(Known l→¬UK l→Y2.f l=some ([],90)):=by
 obtain⟨a1,a2,a3⟩:=Z54 hlen hw;unfold Y2.f;refine⟨fun h=>Zf ?_,fun h hf=>?_,fun h hf=>Zf ?_⟩
 ·dsimp only[Y2.F];rw[a1 h];rfl
 ·obtain⟨o1,o2⟩:=Z01 hf.1;have hR:=Z70 o1;obtain⟨n1,n2,hm⟩:=h;rw[Ze (t :=.l1 ((RL (KK l) l.length).map (gR l),0) [] ((0:Nat):Int)) (by
   dsimp only[Y2.F];rw[a2 ⟨n1,n2,hm⟩ hf];rfl)]
  have inner:∀(out:List Int) (a:Nat),Zw (Y2.F l) (.l2 ((RL (KK l) l.length).map (gR l),0) out a 1 0)=Zw (Y2.F l) (.l2 ((RL (KK l) l.length).map (gR l),0) out a (tm l (RL (KK l) l.length) a) (RL (KK l) l.length).length):=by
   intro out a;have:=TF (F:=Y2.F l) (n:=(RL (KK l) l.length).length) (fun q =>.l2 ((RL (KK l) l.length).map (gR l),0) out a (tm l ((RL (KK l) l.length).take q) a) q) (fun q hq=>by
    have e:elt ((RL (KK l) l.length).map (gR l)) (q:Int)=some (gR l (RL (KK l) l.length)[q]):=by rw[Zy (by simpa using hq),List.getElem_map]
    dsimp only[Y2.F];rw[if_pos (by simp;omega),e];simp only[bS,ZaE];rw[take_succ _ _ hq,Zev];generalize (RL (KK l) l.length)[q]=x;unfold Y2.j1;rw[Zu _ (by omega)];by_cases hz:x.1<a∧a≤x.2
    ·rw[if_pos hz,if_pos (by rw[TY];dsimp only[gR];omega)];rfl
    ·rw[if_neg hz,if_neg (by rw[TY];dsimp only[gR];omega)])
   rw[List.take_length]at this;exact this
  have key:=Tx (F:=Y2.F l) (n:=l.length) (b:=([],0)) (fun k =>.l1 ((RL (KK l) l.length).map (gR l),0) ((List.range k).map fun a=>tm l (RL (KK l) l.length) a) (k:Int)) (fun _=>True) (fun k hk _ _=>by
   rw[Ze (t :=.l2 ((RL (KK l) l.length).map (gR l),0) ((List.range k).map fun a=>tm l (RL (KK l) l.length) a) k 1 0) (by
    dsimp only[Y2.F];rw[if_pos (by omega)]),inner]
   refine Ze ?_;dsimp only[Y2.F];rw[if_neg (by simp),if_pos (by simp;omega),Zu _ (by omega),List.range_succ,List.map_append];rfl) (fun q _ _ h=>absurd trivial h)
  refine(key.1 fun _ _=>trivial).trans (Zf ?_);dsimp only[Y2.F];rw[if_neg (by omega)];rfl
 ·dsimp only[Y2.F];rw[a3 h hf];rfl
theorem both{l:List Z7}(hlen:l.length<4611686018427387904)(hw:∀x∈l,Y5 x) :
    ∃(R:List (Nat×Nat)) (e:Int) (t:List Int),Yq.f l=some (R.map (gF l),e)∧Zr.f l=some (R.map (gR l),e)∧Wx.f l=some (t,e)∧Y2.f l=some (t,e)∧R.length≤200∧t.length≤200:=by
 obtain⟨a1,a2,a3⟩:=Z2J hlen hw;obtain⟨b1,b2,b3⟩:=Z54 hlen hw;obtain⟨c1,c2,c3⟩:=Z68 hlen hw;obtain⟨d1,d2,d3⟩:=Zba hlen hw;by_cases hk:Known l
 ·by_cases hf:UK l
  ·have:=Z70 (Z01 hf.1).1;exact⟨_,_,_,a2 hk hf,b2 hk hf,c2 hk hf,d2 hk hf,Nat.le_trans this hk.2.1,by unfold tms;simp;exact hk.2.1⟩
  ·exact⟨[],_,_,a3 hk hf,b3 hk hf,c3 hk hf,d3 hk hf,by simp,by simp⟩
 ·exact⟨[],_,_,a1 hk,b1 hk,c1 hk,d1 hk,by simp,by simp⟩
end Zz
namespace Xd
theorem ZhJ{x:Zb}{n:Int}(hc:x.Code.length≤300):XV.f x n=some (decide (n∈nm x.Code)):=by
 unfold XV.f;rw[Ze (t :=.l1 ((([]:List Z7).length:Nat):Int)) rfl];have:∀(c pre:List Z7),x.Code=pre++c→Zw (XV.F x n) (.l1 (pre.length:Int))=some (decide (n∈nm c)):=by
  intro c;induction c with
  |nil=>intro pre he;refine Zf ?_;dsimp only[XV.F];rw[if_neg (by rw[he];simp)];simp[nm]
  |cons i c ih=>
   intro pre he;have hlen:pre.length<x.Code.length:=by rw[he];simp
   have hi:x.Code[pre.length]=i:=by simp[he]
   by_cases h:i.Op=30∧i.A=n
   ·refine Zf ?_;dsimp only[XV.F];rw[if_pos (by omega),Zy hlen,hi];simp only[bS];rw[if_pos h.1];simp only[bS];rw[if_pos (by simp[h.2]),JO,if_pos h.1];simp[h.2]
   ·rw[Ze (t :=.l1 ((pre ++ [i]).length:Int)) (by
     dsimp only[XV.F];rw[if_pos (by omega),Zy hlen,hi];simp only[bS];by_cases ho:i.Op=30
     ·rw[if_pos ho];simp only[bS];rw[if_neg (by simp;exact fun e=>h ⟨ho,e⟩),Zu pre.length (by omega),List.length_append];rfl
     ·rw[if_neg ho];simp only[bS];rw[if_neg (by simp),Zu pre.length (by omega),List.length_append];rfl),ih (pre ++ [i]) (by rw[he];simp),JO]
    by_cases ho:i.Op=30
    ·rw[if_pos ho];have:n≠i.A:=fun e=>h ⟨ho,e.symm⟩;simp[this]
    ·rw[if_neg ho]
 exact this _ [] rfl
theorem Z8B{m:Zc}{k:Nat}(hk:k<m.Methods.length)(hm:m.Methods.length≤40)(hc:m.Methods[k].Code.length≤300):ZF.f m k=some (Z0L m.Methods.length m.Methods[k].Code):=by
 generalize hx:m.Methods[k]=x at hc
 unfold ZF.f;rw[Ze (t :=.l1 x ((([]:List Z7).length:Nat):Int)) (by
  dsimp only[ZF.F];rw[if_neg (by simp;omega),Zy hk,hx];rfl)]
 have scan:∀(c pre:List Z7),x.Code=pre++c→Zw (ZF.F m k) (.l1 x (pre.length:Int))=if(nm c).any (VR m.Methods.length)=true then some ([],2)else Zw (ZF.F m k) (.l2 x [] ((0:Nat):Int)):=by
  intro c;induction c with
  |nil=>
   intro pre he;rw[if_neg (by simp[nm])];refine Ze ?_;dsimp only[ZF.F];rw[if_neg (by rw[he];simp)];rfl
  |cons i c ih=>
   intro pre he;have hlen:pre.length<x.Code.length:=by rw[he];simp
   have hi:x.Code[pre.length]=i:=by simp[he]
   by_cases h:i.Op=30∧VR m.Methods.length i.A=true
   ·rw[JO,if_pos h.1,if_pos (by simp[h.2])];refine Zf ?_;dsimp only[ZF.F];rw[if_pos (by omega),Zy hlen,hi];simp only[bS];rw[if_pos h.1];by_cases h0:i.A<0
    ·rw[if_pos h0];unfold ZF.j1;rw[if_pos rfl]
    ·rw[if_neg h0];unfold ZF.j1;have:=h.2;simp only[VR,Bool.or_eq_true,decide_eq_true_eq]at this;rw[if_pos (by simp;omega)]
   ·rw[Ze (t :=.l1 x ((pre ++ [i]).length:Int)) (by
     dsimp only[ZF.F];rw[if_pos (by omega),Zy hlen,hi];simp only[bS];by_cases ho:i.Op=30
     ·have hb:¬VR m.Methods.length i.A=true:=fun e=>h ⟨ho,e⟩;simp only[VR,Bool.or_eq_true,decide_eq_true_eq,not_or]at hb;rw[if_pos ho,if_neg hb.1];unfold ZF.j1;rw[if_neg (by simp;omega),Zu pre.length (by omega),List.length_append];rfl
     ·rw[if_neg ho];unfold ZF.j1;rw[if_neg (by simp),Zu pre.length (by omega),List.length_append];rfl),ih (pre ++ [i]) (by rw[he];simp),JO]
    by_cases ho:i.Op=30
    ·rw[if_pos ho,List.any_cons];have hb:VR m.Methods.length i.A=false:=by simpa using fun e=>h ⟨ho,e⟩
     rw[hb,Bool.false_or]
    ·rw[if_neg ho]
 rw[scan _ [] rfl];unfold Z0L;by_cases hb:(nm x.Code).any (VR m.Methods.length)=true
 ·rw[if_pos hb,if_pos hb]
 ·rw[if_neg hb,if_neg hb];have hl:∀q,(KL q x.Code).length≤q:=fun q=>by unfold KL;exact Nat.le_trans (List.length_filter_le _ _) (by simp)
  refine(TF (F:=ZF.F m k) (n:=m.Methods.length) (fun q =>.l2 x (KL q x.Code) (q:Int)) (fun q hq=>?_)).trans (Zf ?_)
  ·dsimp only[ZF.F];have hl:=hl q;rw[if_pos (by omega),ZhJ hc];simp only[bS];have hs:KL (q+1) x.Code=KL q x.Code++if(q:Int)∈nm x.Code then [(q:Int)]else []:=by
    unfold KL;rw[List.range_succ,List.map_append,List.filter_append];congr 1;by_cases hq:(q:Int)∈nm x.Code
    ·rw[if_pos hq];simp[hq]
    ·rw[if_neg hq];simp[hq]
   by_cases hq:(q:Int)∈nm x.Code
   ·rw[if_pos (by simpa using hq),if_pos (by simp;omega)];unfold ZF.j2;rw[hs,if_pos hq,Zu q (by omega)]
   ·rw[if_neg (by simpa using hq)];unfold ZF.j2;rw[hs,if_neg hq,List.append_nil,Zu q (by omega)]
  ·dsimp only[ZF.F];rw[if_neg (by omega)]
end Xd
namespace Xd
theorem Zey{l:List Int}{n:Int}(hl:l.length≤100):XW.f l n=some (decide (n∈l)):=by
 unfold XW.f;rw[Ze (t :=.l1 ((([]:List Int).length:Nat):Int)) rfl];have:∀(c pre:List Int),l=pre++c→Zw (XW.F l n) (.l1 (pre.length:Int))=some (decide (n∈c)):=by
  intro c;induction c with
  |nil=>intro pre he;refine Zf ?_;dsimp only[XW.F];rw[if_neg (by rw[he];simp)];simp
  |cons i c ih=>
   intro pre he;have hlen:pre.length<l.length:=by rw[he];simp
   have hi:l[pre.length]=i:=by simp[he]
   by_cases h:i=n
   ·refine Zf ?_;dsimp only[XW.F];rw[if_pos (by omega),Zy hlen,hi];simp only[bS];rw[if_pos h];simp[h]
   ·have h':n≠i:=fun e=>h e.symm;rw[show decide (n∈i::c)=decide (n∈c) by simp[h'],←ih (pre ++ [i]) (by rw[he];simp)];refine Ze ?_;dsimp only[XW.F];rw[if_pos (by omega),Zy hlen,hi];simp only[bS];rw[if_neg h,Zu pre.length (by omega),List.length_append];rfl
 exact this _ [] rfl
theorem Zjp{m:Zc}(S:Fit m)(hg:TA m=false):∀(f:Nat) (out:List Int),out.length+f=m.Methods.length→Zw (ZH.F m) (.l2 out)=some (JQ (YW m) f out):=by
 have hM:=S.M;have hWl:(YW m).length=m.Methods.length:=by simp[YW]
 have hw:∀k (hk:k<m.Methods.length),ZF.f m k=some ((YW m).getD k [],0):=by
  intro k hk;rw[Z8B hk hM (S.x _ (List.getElem_mem hk)),Z0L,Z1c hk];have:=List.any_eq_false.1 hg _ (List.getElem_mem hk);rw[if_neg this]
 intro f;induction f with
 |zero=>
  intro out ho;refine Zf ?_;dsimp only[ZH.F];rw[if_neg (by omega)];rfl
 |succ f ih=>
  intro out ho;rw[Ze (t :=.l3 out (-1) ((0:Nat):Int)) (by dsimp only[ZH.F];rw[if_pos (by omega)];rfl)];have inner:∀(k:Nat) (t:List Int) (b:Bool),t.length≤40→∀(c pre:List Int) (b:Bool),t=pre++c→Zw (ZH.F m) (.l4 out (-1) (k:Int) (t,0) b (pre.length:Int))=Zw (ZH.F m) (.l4 out (-1) (k:Int) (t,0) (b&&c.all fun a=>decide (a∈out)) (t.length:Int)):=by
   intro k t _ ht c;induction c with
   |nil=>intro pre b he;simp at he;subst he;simp
   |cons a c ihc=>
    intro pre b he;have hlen:pre.length<t.length:=by rw[he];simp
    have hi:t[pre.length]=a:=by simp[he]
    rw[Ze (t :=.l4 out (-1) (k:Int) (t,0) (b&&decide (a∈out)) ((pre ++ [a]).length:Int)) (by
     dsimp only[ZH.F];rw[if_pos (by omega)];cases b with
     |true=>
      rw[if_pos rfl,Zy hlen,hi];simp only[bS];rw[Zey (by omega)];simp only[bS];rw[Zu pre.length (by omega),List.length_append];simp
     |false=>
      rw[if_neg (by simp)];simp only[bS];rw[Zu pre.length (by omega),List.length_append];simp),ihc (pre ++ [a]) _ (by rw[he];simp)]
    simp[Bool.and_assoc]
  have one:∀k,k<m.Methods.length→Zw (ZH.F m) (.l3 out (-1) (k:Int))=if ready (YW m) out k=true then Zw (ZH.F m) (.l3 out (k:Int) ((k+1:Nat):Int))else Zw (ZH.F m) (.l3 out (-1) ((k+1:Nat):Int)):=by
   intro k hk;have htl:((YW m).getD k []).length≤40:=by rw[Z1c hk];exact Nat.le_trans (Z53 _ _) hM
   rw[Ze (t :=.l4 out (-1) (k:Int) ((YW m).getD k [],0) (!decide ((k:Int)∈out)) ((([]:List Int).length:Nat):Int)) (by
    dsimp only[ZH.F];rw[if_pos (by simp;omega),hw k hk];simp only[bS];rw[Zey (by omega)];rfl),inner k ((YW m).getD k []) true htl ((YW m).getD k []) [] _ rfl]
   by_cases hr:ready (YW m) out k=true
   ·rw[if_pos hr];have hr2:(!decide ((k:Int)∈out)&&(((YW m).getD k []).all fun a=>decide (a∈out)))=true:=by simpa[ready]using hr
    rw[hr2];refine Ze ?_;dsimp only[ZH.F];rw[if_neg (by omega),if_pos rfl];unfold ZH.j1;rw[Zu k (by omega)]
   ·rw[if_neg hr];have hr2:(!decide ((k:Int)∈out)&&(((YW m).getD k []).all fun a=>decide (a∈out)))=false:=by
     have:ready (YW m) out k=false:=by simpa using hr
     simpa[ready]using this
    rw[hr2];refine Ze ?_;dsimp only[ZH.F];rw[if_neg (by omega),if_neg (by simp)];unfold ZH.j1;rw[Zu k (by omega)]
  have found:∀(k q:Nat),Zw (ZH.F m) (.l3 out (k:Int) (q:Int))=Zw (ZH.F m) (.l2 (out ++ [(k:Int)])):=by
   intro k q;refine Ze ?_;dsimp only[ZH.F];rw[if_neg (by simp),if_neg (by omega),if_pos (by simp;omega)]
  have scan:∀(j k:Nat),k+j=m.Methods.length→Zw (ZH.F m) (.l3 out (-1) (k:Int))=match (List.range' k j).find? (ready (YW m) out)with
      |none=>some ([],110)
      |some k=>Zw (ZH.F m) (.l2 (out ++ [(k:Int)])):=by
   intro j;induction j with
   |zero=>
    intro k hk;simp only[List.range'_zero,List.find?_nil];refine Zf ?_;dsimp only[ZH.F];rw[if_neg (by simp;omega),if_pos (by omega)]
   |succ j ihj=>
    intro k hk;rw[one k (by omega),List.range'_succ,List.find?_cons];by_cases hr:ready (YW m) out k=true
    ·rw[if_pos hr,hr,found]
    ·have hr':ready (YW m) out k=false:=by simpa using hr
     rw[if_neg hr,hr',ihj (k+1) (by omega)]
  rw[scan m.Methods.length 0 (by omega),←List.range_eq_range',←hWl];unfold JQ Z77;cases hn:(List.range (YW m).length).find? (ready (YW m) out)with
  |none=>rfl
  |some k=>exact ih _ (by simp;omega)
theorem Zbb{m:Zc}(S:Fit m):ZH.f m=some (if TA m=true then([],2)else JQ (YW m) m.Methods.length []):=by
 unfold ZH.f;have hM:=S.M;rw[Ze (t :=.l1 ((([]:List Zb).length:Nat):Int)) rfl];have:∀(c pre:List Zb),m.Methods=pre++c→Zw (ZH.F m) (.l1 (pre.length:Int))=if(c.any fun x=>(nm x.Code).any (VR m.Methods.length))=true then some ([],2)else Zw (ZH.F m) (.l2 []):=by
  intro c;induction c with
  |nil=>
   intro pre he;rw[if_neg (by simp)];refine Ze ?_;dsimp only[ZH.F];rw[if_neg (by rw[he];simp)]
  |cons x c ih=>
   intro pre he;have hlen:pre.length<m.Methods.length:=by rw[he];simp
   have hx:m.Methods[pre.length]=x:=by simp[he]
   have hw:=Z8B hlen hM (S.x _ (List.getElem_mem hlen));rw[hx]at hw;by_cases hb:(nm x.Code).any (VR m.Methods.length)=true
   ·rw[List.any_cons,hb,Bool.true_or,if_pos rfl];refine Zf ?_;dsimp only[ZH.F];rw[if_pos (by omega),hw];simp only[bS,Z0L];rw[if_pos hb,if_pos (by simp)]
   ·have hb':(nm x.Code).any (VR m.Methods.length)=false:=by simpa using hb
    rw[List.any_cons,hb',Bool.false_or,←ih (pre ++ [x]) (by rw[he];simp)];refine Ze ?_;dsimp only[ZH.F];rw[if_pos (by omega),hw];simp only[bS,Z0L];rw[if_neg hb,if_neg (by simp),Zu pre.length (by omega),List.length_append];rfl
 rw[this m.Methods [] rfl];by_cases hb:TA m=true
 ·have hb2:(m.Methods.any fun x=>(nm x.Code).any (VR m.Methods.length))=true:=hb;rw[if_pos hb,if_pos hb2]
 ·have hb2:¬(m.Methods.any fun x=>(nm x.Code).any (VR m.Methods.length))=true:=hb;rw[if_neg hb,if_neg hb2,Zjp S (by simpa using hb) m.Methods.length [] (by simp)]
end Xd
end Go.Proofs.YtehjiiebjkkcmaaGreatDoor
