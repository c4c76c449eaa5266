/- Words of this claim. -/
import Derived.WalkKit
import Derived.KernelRfl
import Derived.Deep.LoopGhost
import Derived.ControlIn
import Derived.TacticsIn
import Derived.OrdersIn
import Derived.LoopNIn
import Derived.RangeFuncIn
import Derived.Laws.CopyRow
import Derived.OrdersHeld
import Derived.ProofKit
import Derived.Carry
import Derived.Great.BuildSlice
import Derived.Laws.BytesArg
import Derived.Laws.Strings
import Derived.Laws.Concat
import Derived.Great.FillDense
import Derived.MapKept
import Derived.RangeFuncLeaves
import Derived.RangeFuncRecord
import Derived.Laws.IdiomRangeMap
import Derived.Laws.MakeOwn
import Derived.ScopeJumps
import Derived.Shelf.GgSortFunc.InsertionK
import Derived.OpenShut
import Derived.MakeChecks
import Derived.Lib.SlicesCompact
import Derived.Laws.AppendOwn
import Derived.Lib.SlKeysI
import Derived.Maps.Own
import Derived.Maps.OwnSet
import Derived.DefersIn
import Derived.RecoverIn
set_option linter.unusedVariables false
set_option linter.unusedSimpArgs false
set_option linter.unusedSectionVars false
namespace Go.Q
theorem bS{α β:Type _}(a:α)(f:α→Option β):(some a).bind f=f a:=rfl
theorem sI{α:Type _}{a b:α}(h:some a=some b):a=b:=Option.some.inj h
end Go.Q
namespace Go.Q
abbrev Hp:=Nat→Option Obj
def hp(w:World):Hp:=fun b=>w.heap[b]?
def Sub(h h':Hp):Prop:=∀b o,h b=some o→h' b=some o
def Dj(h h':Hp):Prop:=∀b,h b=none∨h' b=none
def un(h h':Hp):Hp:=fun b=>(h b).or (h' b)
def em:Hp:=fun _=>none
theorem Sub.refl(h:Hp):Sub h h:=fun _ _ x=>x
theorem Sub.trans{a b c:Hp}(h:Sub a b)(k:Sub b c):Sub a c:=fun x o e=>k x o (h x o e)
theorem Sub.em(h:Hp):Sub em h:=fun _ _ x=>by simp[Q.em]at x
theorem Sub.Xe(a b:Hp):Sub a (un a b):=fun x o e=>by simp[un,e]
theorem Sub.YH{a b:Hp}(d:Dj a b):Sub b (un a b):=fun x o e=>by
 rcases d x with h|h
 ·simp[un,h,e]
 ·rw[h]at e;cases e
theorem Sub.Vl{a b c:Hp}(h:Sub a c)(k:Sub b c):Sub (un a b) c:=fun x o e=>by
 unfold un at e;cases ha:a x with
 |some u=>rw[ha]at e;simp at e;subst e;exact h x _ ha
 |none=>rw[ha]at e;simp at e;exact k x _ e
theorem Dj.symm{a b:Hp}(h:Dj a b):Dj b a:=fun x=>(h x).symm
theorem Dj.YM(a:Hp):Dj em a:=fun _ =>.inl rfl
theorem Dj.WM(a:Hp):Dj a em:=fun _ =>.inr rfl
theorem Dj.sub{a b c d:Hp}(h:Dj a b)(x:Sub c a)(y:Sub d b):Dj c d:=fun k=>by
 cases hc:c k with
 |none=>exact .inl rfl
 |some o=>
  refine .inr ?_;rcases h k with e|e
  ·rw[x k o hc]at e;cases e
  ·cases hd:d k with
   |none=>rfl
   |some u=>rw[y k u hd]at e;cases e
theorem Dj.Xe{a b c:Hp}(h:Dj a c)(k:Dj b c):Dj (un a b) c:=fun x=>by
 rcases h x with e|e
 ·rcases k x with f|f
  ·exact .inl (by simp[un,e,f])
  ·exact .inr f
 ·exact .inr e
theorem Dj.YH{a b c:Hp}(h:Dj a b)(k:Dj a c):Dj a (un b c):=(Dj.Xe h.symm k.symm).symm
structure HP where
 p:Hp→Prop
 mono:∀h h',Sub h h'→p h→p h'
structure HO where
 p:Hp→Hp→Prop
 mono:∀a a' b b',Sub a a'→Sub b b'→p a b→p a' b'
def HO.em:HO:=⟨fun _ _=>True,fun _ _ _ _ _ _ h=>h⟩
def HO.pure(q:Prop):HO:=⟨fun _ _=>q,fun _ _ _ _ _ _ h=>h⟩
def HO.and(x y:HO):HO:=⟨fun a b=>∃h1 h2,Dj h1 h2∧Sub h1 b∧Sub h2 b∧x.p a h1∧y.p a h2,
 fun a a' b b' ha hb ⟨h1,h2,d,s1,s2,p,q⟩=>⟨h1,h2,d,s1.trans hb,s2.trans hb,x.mono _ _ _ _ ha (Sub.refl _) p,y.mono _ _ _ _ ha (Sub.refl _) q⟩⟩
def HO.ofP(x:HP):HO:=⟨fun a _=>x.p a,fun _ _ _ _ ha _ h=>x.mono _ _ ha h⟩
def Sep(hP:Hp):List HO→Hp→Prop
 | [],_=>True
 |x::xs,h=>∃h1 h2,Dj h1 h2∧Sub h1 h∧Sub h2 h∧x.p hP h1∧Sep hP xs h2
theorem Sep.mono:∀(l:List HO) {a a' b b':Hp},Sub a a'→Sub b b'→Sep a l b→Sep a' l b'
 | [],_,_,_,_,_,_,_=>trivial
 |x::xs,_,_,_,_,ha,hb,⟨h1,h2,d,s1,s2,p,q⟩=>
  ⟨h1,h2,d,s1.trans hb,s2.trans hb,x.mono _ _ _ _ ha (Sub.refl _) p,Sep.mono xs ha (Sub.refl _) q⟩
theorem Sep.take:∀(i:Nat) (l:List HO) {x:HO} {a b:Hp},l[i]?=some x→Sep a l b →
    ∃h1 h2,Dj h1 h2∧Sub h1 b∧Sub h2 b∧x.p a h1∧Sep a (l.eraseIdx i) h2
 | _,[],_,_,_,h,_=>by simp at h
 | 0,y::ys,x,a,b,h,⟨h1,h2,d,s1,s2,p,q⟩=>by
  simp at h;subst h;exact⟨h1,h2,d,s1,s2,p,q⟩
 |i+1,y::ys,x,a,b,h,⟨h1,h2,d,s1,s2,p,q⟩=>by
  simp at h;obtain⟨k1,k2,e,t1,t2,r,s⟩:=Sep.take i ys h q;refine⟨k1,un h1 k2,Dj.YH (d.symm.sub t1 (Sub.refl _)) e,t1.trans s2,Sub.Vl s1 (t2.trans s2),r,?_⟩;exact⟨h1,k2,d.sub (Sub.refl _) t2,Sub.Xe _ _,Sub.YH (d.sub (Sub.refl _) t2),p,s⟩
theorem Sep.back:∀(i:Nat) (l:List HO) {x:HO} {a h1 h2:Hp},i<l.length→Dj h1 h2→x.p a h1→Sep a (l.eraseIdx i) h2→Sep a (l.set i x) (un h1 h2)
 | _,[],_,_,_,_,h,_,_,_=>by simp at h
 | 0,y::ys,x,a,h1,h2,_,d,p,q=>⟨h1,h2,d,Sub.Xe _ _,Sub.YH d,p,q⟩
 |i+1,y::ys,x,a,h1,h2,hi,d,p,⟨k1,k2,e,t1,t2,r,s⟩=>by
  have:=Sep.back i ys (by simpa using hi) (d.sub (Sub.refl _) t2) p s;exact⟨k1,un h1 k2,Dj.YH (d.symm.sub t1 (Sub.refl _)) e,t1.trans (Sub.YH d),Sub.Vl (Sub.Xe _ _) (t2.trans (Sub.YH d)),r,this⟩
structure Met(w0 w:World):Prop where
 os:w.os=w0.os
 tape:w.tape=w0.tape
 output:w.output=w0.output
 size:w0.heap.size≤w.heap.size
theorem Met.refl(w:World):Met w w:=⟨rfl,rfl,rfl,Nat.le_refl _⟩
theorem Met.trans{a b c:World}(h:Met a b)(k:Met b c):Met a c:=⟨k.os.trans h.os,k.tape.trans h.tape,k.output.trans h.output,Nat.le_trans h.size k.size⟩
def Since(w0:World)(hA hV:Hp)(F:Hp→Hp→Prop)(w:World):Prop:=
 Met w0 w∧(∀b o,hp w0 b=some o→hA b=none→hp w b=some o) ∧
 ∃hN hO,(∀b,b<w0.heap.size→hA b=none→hN b=none)∧(∀b,b<w0.heap.size→hA b=none→hO b=none) ∧
  Dj hN hO∧Sub hN (hp w)∧Sub hO (hp w)∧F (un hV hN) hO
def All(ps:List HP)(h:Hp):Prop:=∀x∈ps,x.p h
theorem All.mono{ps:List HP}{h h':Hp}(s:Sub h h')(k:All ps h):All ps h':=fun x hx=>x.mono _ _ s (k x hx)
def St(w0:World)(hA hV:Hp)(ps:List HP)(os:List HO):World→Prop:=
 Since w0 hA hV fun hP hO=>All ps hP∧Sep hP os hO
def XL(P:Program)(f:FuncId)(args:Array Value)(hA hV:Hp)(w:World)(K:Value→HO):Prop:=
 Calls P f args w fun e w'=>∃v,e=.returned v∧Since w hA hV (K v).p w'
theorem Z46{a b:Nat}(h:a≠b):Nat.beq a b=false:=by
 cases hb:Nat.beq a b with
 |false=>rfl
 |true=>exact absurd (Nat.eq_of_beq_eq_true hb) h
theorem Zko{a b:Nat}(h:Nat.beq a b=false):a≠b:=fun e=>by subst e;simp at h
def find(t:Nat):List (Nat×Value)→Option Value
 | []=>none
 |(k,v)::r=>bif Nat.beq k t then some v else find t r
structure Fr where
 n:Nat
 ds:List Deferred
def Env(n:Fr)(σ:List (Nat×Value))(a:Act):Prop:=
 a.tmps.size=n.n∧a.defers=n.ds∧∀t v,find t σ=some v→a.tmps[t]?=some v
theorem Env.put{n:Fr}{σ:List (Nat×Value)}{a:Act}{d:Nat}(v:Value)(h:Env n σ a)(hd:d<n.n):Env n ((d,v)::σ) (a.put (some d) v):=by
 obtain⟨h1,h2,h3⟩:=h;refine⟨by simp[Act.put,h1],by simp[Act.put,h2],fun t u ht=>?_⟩;simp only[find]at ht;by_cases e:d=t
 ·subst e;simp at ht;subst ht;simp[Act.put,h1,hd]
 ·have:Nat.beq d t=false:=Z46 e;rw[this]at ht;simp only[cond_false]at ht;simp only[Act.put];rw[Array.getElem?_setIfInBounds_ne e];exact h3 t u ht
def Z0M:List (Nat×Value)→List (Nat×Value)→Prop
 | [],_=>True
 |(k,v)::r,σ=>find k σ=some v∧Z0M r σ
theorem Z0M.find:∀{σ' σ:List (Nat×Value)} {t:Nat} {v:Value},Z0M σ' σ→Q.find t σ'=some v→Q.find t σ=some v
 | [],_,_,_,_,h=>by simp[Q.find]at h
 |(k,u)::r,σ,t,v,⟨h1,h2⟩,h=>by
  simp only[Q.find]at h;by_cases e:k=t
  ·subst e;simp at h;subst h;exact h1
  ·have:Nat.beq k t=false:=Z46 e;rw[this]at h;exact Z0M.find h2 h
theorem Env.sub{n:Fr}{σ' σ:List (Nat×Value)}{a:Act}(h:Env n σ a)(s:Z0M σ' σ):Env n σ' a:=
 ⟨h.1,h.2.1,fun t v ht=>h.2.2 t v (s.find ht)⟩
def ev(σ:List (Nat×Value)):Operand→Option Value
 | .tmp t=>find t σ
 | .const v=>some v
 | .global g=>some (.pointer (some ⟨g,0,none⟩))
 | .func f=>some (.func (.func f) #[] #[])
theorem Env.eval{n:Fr}{σ:List (Nat×Value)}{a:Act}{x:Operand}{v:Value}(h:Env n σ a)(hx:ev σ x=some v):a.eval x=v:=by
 cases x with
 |tmp t=>have:=h.2.2 t v hx;simp[Act.eval,this]
 |const u=>simpa[ev,Act.eval]using hx
 |global g=>simpa[ev,Act.eval]using hx
 |func f=>simpa[ev,Act.eval]using hx
def evs(σ:List (Nat×Value)):List Operand→Option (List Value)
 | []=>some []
 |x::r=>match ev σ x,evs σ r with
  |some v,some vs=>some (v::vs)
  | _,_=>none
theorem Env.Z1i{n:Fr}{σ:List (Nat×Value)}{a:Act}(h:Env n σ a):∀{l:List Operand} {vs:List Value},evs σ l=some vs→l.map a.eval=vs
 | [],vs,he=>by simp[evs]at he;simp[he]
 |x::r,vs,he=>by
  simp only[evs]at he;cases hx:ev σ x with
  |none=>rw[hx]at he;simp at he
  |some v=>
   cases hr:evs σ r with
   |none=>rw[hx,hr]at he;simp at he
   |some us=>rw[hx,hr]at he;simp at he;subst he;simp[h.eval hx,h.Z1i hr]
def nth:List Oper→Nat→Option Oper
 | [],_=>none
 |o::_,0=>some o
 | _::r,n+1=>nth r n
theorem Z4e:∀(l:List Oper) (i:Nat),nth l i=l[i]?
 | [],_=>by simp[nth]
 | _::_,0=>by simp[nth]
 | _::r,n+1=>by simp[nth,Z4e r n]
def gd(L:List Oper)(σ:List (Nat×Value)):Option (Nat×Bool)→Option Bool
 |none=>some true
 |some (j,want)=>match (nth L j).bind (·.dst)with
  |some d=>match find d σ with
   |some (.bool b)=>some (b==want)
   |some (.tuple _)=>some false
   | _=>none
  |none=>none
theorem Env.wanted{n:Fr}{σ:List (Nat×Value)}{a:Act}{L:List Oper}{o:Oper}{b:Bool}(h:Env n σ a)(hg:gd L σ o.guard=some b) :
    Region.wanted o (yielded L.toArray a.tmps)=b:=by
 unfold gd at hg;split at hg
 ·rename_i e;simp at hg;simp[Region.wanted,e,hg]
 ·rename_i j want e
  split at hg
  ·rename_i d hd
   rw[Z4e]at hd;split at hg
   ·rename_i c hc
    simp at hg;have h1:=h.2.2 d _ hc;have h2:yielded L.toArray a.tmps j=some c:=by simp[yielded,hd,h1]
    simp[Region.wanted,e,h2,←hg]
   ·rename_i vs hc
    simp at hg;have h1:=h.2.2 d _ hc;have h2:yielded L.toArray a.tmps j=none:=by simp[yielded,hd,h1]
    simp[Region.wanted,e,h2,←hg]
   ·simp at hg
  ·simp at hg
abbrev FF(ρ:Option Nat):Fence:={ Fence.wide with round:=ρ }
section
variable(P:Program)(n:Fr)(ρ:Option Nat)
abbrev Cont:=Exit→Act→World→Prop
abbrev wl(ops:Array Oper)(Q:Cont)(l:List Oper)(a:Act)(w:World):Prop:=wpListIn (FF ρ) 0 P ops Q l a w
def CP(σ:List (Nat×Value))(A:World→Prop)(c:Code)(Q:Cont):Prop:=∀a w,Env n σ a→A w→c.wpIn (FF ρ) 0 P Q a w
def SP(σ:List (Nat×Value))(A:World→Prop)(L l:List Oper)(Q:Cont):Prop:=∀a w,Env n σ a→A w→wpListIn (FF ρ) 0 P L.toArray Q l a w
def QE(σ:List (Nat×Value))(A:World→Prop)(Q:Cont)(e:Exit):Prop:=∀a w,Env n σ a→A w→Q e a w
end
section
variable{P:Program}{n:Fr}{ρ:Option Nat}{σ σ':List (Nat×Value)}{A A':World→Prop}{L l:List Oper}{Q:Cont}{c x y:Code}{id:Nat}{e:Exit}
theorem CP.seq(h:CP P n ρ σ A x (Exit.then (y.wpIn (FF ρ) 0 P Q) Q)):CP P n ρ σ A (.seq x y) Q:=fun a w ha hw=>wpIn_seq (h a w ha hw)
theorem CP.region(h:SP P n ρ σ A l l Q):CP P n ρ σ A (.region id l.toArray false) Q:=fun a w ha hw=>wpIn_region_lit (h a w ha hw)
theorem CP.skip(h:QE n σ A Q .normal):CP P n ρ σ A .skip Q:=fun a w ha hw=>wpIn_skip (h a w ha hw)
theorem CP.ret(h:QE n σ A Q .ret):CP P n ρ σ A .ret Q:=fun a w ha hw=>wpIn_ret (h a w ha hw)
theorem CP.exit(h:QE n σ A Q (.exit id)):CP P n ρ σ A (.exit id) Q:=fun a w ha hw=>wpIn_exit (h a w ha hw)
theorem CP.label(h:QE n σ A Q .normal):CP P n ρ σ A (.label id) Q:=fun a w ha hw=>wpIn_label (h a w ha hw)
theorem CP.block(h:CP P n ρ σ A c (Exit.inBlock id Q)):CP P n ρ σ A (.block id c) Q:=fun a w ha hw=>wpIn_block (h a w ha hw)
theorem CP.cond{t:Operand}{b:Bool}(ht:ev σ t=some (.bool b))(h1:b=true→CP P n ρ σ A x Q)(h2:b=false→CP P n ρ σ A y Q):CP P n ρ σ A (.cond t x y) Q:=
 fun a w ha hw=>wpIn_cond_split (ha.eval ht) (fun hb=>h1 hb a w ha hw) (fun hb=>h2 hb a w ha hw)
theorem SP.nil(h:QE n σ A Q .normal):SP P n ρ σ A L [] Q:=fun a w ha hw=>wpListIn_nil (h a w ha hw)
theorem QE.then(h:CP P n ρ σ A y Q):QE n σ A (Exit.then (y.wpIn (FF ρ) 0 P Q) Q) .normal:=h
theorem QE.ZeH{nx:Act→World→Prop}(he:e≠.normal)(h:QE n σ A Q e):QE n σ A (Exit.then nx Q) e:=fun a w ha hw=>by
 cases e<;>first|exact absurd rfl he|exact h a w ha hw
theorem QE.Zg3(h:QE n σ A Q .normal):QE n σ A (Exit.inBlock id Q) .normal:=h
theorem QE.Zg4(h:QE n σ A Q .ret):QE n σ A (Exit.inBlock id Q) .ret:=h
theorem QE.Zg5(h:QE n σ A Q .normal):QE n σ A (Exit.inBlock id Q) (.exit id):=fun a w ha hw=>by simpa[Exit.inBlock]using h a w ha hw
theorem QE.Zg6{ch:List PanicEntry}(h:QE n σ A Q (.panic ch)):QE n σ A (Exit.inBlock id Q) (.panic ch):=fun a w ha hw=>h a w ha hw
theorem QE.Zg7{k:Nat}(hk:Nat.beq k id=false)(h:QE n σ A Q (.exit k)):QE n σ A (Exit.inBlock id Q) (.exit k):=fun a w ha hw=>by
 have:k≠id:=Zko hk;simpa[Exit.inBlock,this]using h a w ha hw
theorem CP.weak(s:Z0M σ' σ)(hA:∀w,A w→A' w)(h:CP P n ρ σ' A' c Q):CP P n ρ σ A c Q:=fun a w ha hw=>h a w (ha.sub s) (hA w hw)
end
end Go.Q
namespace Go.Q
def bk(b:Nat)(o:Obj):Hp:=fun x=>if x=b then some o else none
theorem J4{w:World}{b:Nat}{o:Obj}(h:hp w b=some o):b<w.heap.size:=by
 unfold hp at h;rcases Nat.lt_or_ge b w.heap.size with g|g
 ·exact g
 ·rw[Array.getElem?_eq_none g]at h;cases h
theorem Z5A(w:World)(o:Obj):Sub (hp w) (hp (w.alloc o)):=fun b u h=>by
 have hl:=J4 h;show(w.heap.push o)[b]?=_;rw[Array.getElem?_push,if_neg (by omega)];exact h
theorem Z6k(w:World)(o:Obj):hp (w.alloc o) w.heap.size=some o:=by
 show(w.heap.push o)[w.heap.size]?=some o;simp
def Zl(b:Nat)(cs:List Value)(T:TypeId):HO:=⟨fun _ h=>h b=some (.cells cs.toArray T (0,0)),fun _ _ _ _ _ hb h=>hb _ _ h⟩
def Ku(b:Nat)(cs:List Value)(T:TypeId):HP:=⟨fun h=>h b=some (.cells cs.toArray T (0,0)),fun _ _ hb h=>hb _ _ h⟩
section
variable{w0 w w':World}{hA hV:Hp}{ps:List HP}{os:List HO}
theorem St.imp{ps':List HP}{os':List HO}(hp:∀h,All ps h→All ps' h)(ho:∀a b,All ps a→Sep a os b→Sep a os' b)(h:St w0 hA hV ps os w):St w0 hA hV ps' os' w:=by
 obtain⟨m,f,hN,hO,n1,n2,d,s1,s2,p,q⟩:=h;exact⟨m,f,hN,hO,n1,n2,d,s1,s2,hp _ p,ho _ _ p q⟩
theorem St.Ur(i:Nat){x:HP}(hi:ps[i]?=some x)(sV:Sub hV (hp w0))(dj:Dj hV hA)(h:St w0 hA hV ps os w):x.p (hp w):=by
 obtain⟨m,f,hN,hO,n1,n2,d,s1,s2,p,q⟩:=h;refine x.mono _ _ (Sub.Vl (fun b o e=>f b o (sV b o e) ?_) s1) (p x (List.mem_of_getElem? hi));rcases dj b with k|k
 ·rw[e]at k;cases k
 ·exact k
theorem St.own(i:Nat){x:HO}(hi:os[i]?=some x)(sV:Sub hV (hp w0))(dj:Dj hV hA)(h:St w0 hA hV ps os w):x.p (hp w) (hp w):=by
 obtain⟨m,f,hN,hO,n1,n2,d,s1,s2,p,q⟩:=h;obtain⟨h1,h2,e,t1,t2,r,s⟩:=Sep.take i os hi q;refine x.mono _ _ _ _ (Sub.Vl (fun b o e=>f b o (sV b o e) ?_) s1) (t1.trans s2) r;rcases dj b with k|k
 ·rw[e]at k;cases k
 ·exact k
theorem St.cell(i:Nat){b:Nat}{cs:List Value}{T:TypeId}(hi:os[i]?=some (Zl b cs T))(h:St w0 hA hV ps os w):w.heap[b]?=some (.cells cs.toArray T (0,0)):=by
 obtain⟨m,f,hN,hO,n1,n2,d,s1,s2,p,q⟩:=h;obtain⟨h1,h2,e,t1,t2,r,s⟩:=Sep.take i os hi q;exact s2 _ _ (t1 _ _ r)
theorem St.drawn(k:Nat)(h:St w0 hA hV ps os w):St w0 hA hV ps os { w with drawn:=k }:=by
 obtain⟨⟨a,b,c,e⟩,f,hN,hO,r⟩:=h;exact⟨⟨a,b,c,e⟩,f,hN,hO,r⟩
theorem St.Z6l{x:HO}(o:Obj)(hx:∀a,All ps a→x.p a (bk w.heap.size o))(h:St w0 hA hV ps os w):St w0 hA hV ps (x::os) (w.alloc o):=by
 obtain⟨m,f,hN,hO,n1,n2,d,s1,s2,p,q⟩:=h;have new:∀k:Hp,Sub k (hp w)→k w.heap.size=none:=fun k hk=>by
  cases e:k w.heap.size with
  |none=>rfl
  |some u=>exact absurd (J4 (hk _ _ e)) (Nat.lt_irrefl _)
 have djN:∀k:Hp,Sub k (hp w)→Dj (bk w.heap.size o) k:=fun k hk b=>by
  by_cases e:b=w.heap.size
  ·subst e;exact .inr (new k hk)
  ·exact .inl (by simp[bk,e])
 refine⟨⟨m.os,m.tape,m.output,Nat.le_trans m.size (by simp)⟩,fun b u e1 e2=>Z5A _ _ _ _ (f b u e1 e2),hN,un (bk w.heap.size o) hO,n1,?_,?_,s1.trans (Z5A _ _),?_,p,?_⟩
 ·intro b hb hb2;have:b≠w.heap.size:=by have:=m.size;omega
  simp[un,bk,this,n2 b hb hb2]
 ·exact Dj.YH (djN _ s1).symm d
 ·refine Sub.Vl (fun b u e=>?_) (s2.trans (Z5A _ _));unfold bk at e;split at e
  ·rename_i hb;subst hb;simp at e;subst e;exact Z6k _ _
  ·cases e
 ·exact⟨_,hO,djN _ s2,Sub.Xe _ _,Sub.YH (djN _ s2),hx _ p,q⟩
theorem St.alloc{x:HO}(o:Obj)(hx:x.p em (bk w.heap.size o))(h:St w0 hA hV ps os w):St w0 hA hV ps (x::os) (w.alloc o):=
 h.Z6l o fun a _=>x.mono _ _ _ _ (Sub.em _) (Sub.refl _) hx
theorem St.box(cs:List Value)(T:TypeId)(h:St w0 hA hV ps os w):St w0 hA hV ps (Zl w.heap.size cs T::os) (w.alloc (.cells cs.toArray T)):=
 h.alloc _ (by simp[Zl,bk])
theorem St.change(i:Nat){x y:HO}(hi:os[i]?=some x)(hm:Met w w')(h:St w0 hA hV ps os w)
    (hc:∀hP hO,Sub hO (hp w)→x.p hP hO→∃hO',y.p hP hO'∧Sub hO' (hp w')∧(∀b,hO' b≠none→hO b≠none)∧∀b o,hp w b=some o→hO b=none→hp w' b=some o):St w0 hA hV ps (os.set i y) w':=by
 obtain⟨m,f,hN,hO,n1,n2,d,s1,s2,p,q⟩:=h;obtain⟨h1,h2,e,t1,t2,r,s⟩:=Sep.take i os hi q;obtain⟨h1',k1,k2,k3,k4⟩:=hc _ h1 (t1.trans s2) r;have hk3:∀b,h1 b=none→h1' b=none:=fun b hb=>by
  cases eq:h1' b with
  |none=>rfl
  |some u=>exact absurd hb (k3 b (by rw[eq];simp))
 have dj':∀k:Hp,Dj h1 k→Dj h1' k:=fun k hk b=>(hk b).imp (hk3 b) id;have keep:∀k:Hp,Dj h1 k→Sub k (hp w)→Sub k (hp w'):=fun k hk hs b o eb=>by
  refine k4 b o (hs b o eb) ?_;rcases hk b with z|z
  ·exact z
  ·rw[eb]at z;cases z
 have dN:Dj h1 hN:=(d.sub (Sub.refl _) t1).symm;refine⟨m.trans hm,fun b o e1 e2=>?_,hN,un h1' h2,n1,?_,Dj.YH (dj' _ dN).symm (d.sub (Sub.refl _) t2),keep _ dN s1,Sub.Vl k2 (keep _ e (t2.trans s2)),p,?_⟩
 ·refine k4 b o (f b o e1 e2) ?_;have hb:b<w0.heap.size:=J4 e1;cases eq:h1 b with
  |none=>rfl
  |some u=>have:=t1 _ _ eq;rw[n2 b hb e2]at this;cases this
 ·intro b hb hb2;have z:=n2 b hb hb2;have z1:h1 b=none:=by
   cases eq:h1 b with
   |none=>rfl
   |some u=>have:=t1 _ _ eq;rw[z]at this;cases this
  have z2:h2 b=none:=by
   cases eq:h2 b with
   |none=>rfl
   |some u=>have:=t2 _ _ eq;rw[z]at this;cases this
  simp[un,hk3 b z1,z2]
 ·exact Sep.back i os (by rcases Nat.lt_or_ge i os.length with g|g;exact g;rw[List.getElem?_eq_none g]at hi;cases hi) (dj' _ e) k1 s
theorem Zbj(w:World)(a:Addr)(v:Value){b:Nat}(h:b≠a.block):hp (w.setCell a v) b=hp w b:=by
 simp only[hp,World.setCell,Array.getElem?_modify];rw[if_neg (Ne.symm h)]
theorem Zbk(w:World)(b off:Nat)(v:Value){cs:Array Value}{T:TypeId}{fr:Nat×Nat}(h:hp w b=some (.cells cs T fr)) :
    hp (w.setCell ⟨b,off,none⟩ v) b=some (.cells (cs.setIfInBounds off v) T fr):=by
 simp only[hp]at h;simp[hp,World.setCell,Array.getElem?_modify,h]
theorem Met.setCell(w:World)(a:Addr)(v:Value):Met w (w.setCell a v):=⟨rfl,rfl,rfl,by simp[World.setCell]⟩
theorem St.set(i:Nat){b:Nat}{cs:List Value}{T:TypeId}(off:Nat)(v:Value)(hi:os[i]?=some (Zl b cs T))(h:St w0 hA hV ps os w) :
    St w0 hA hV ps (os.set i (Zl b (cs.set off v) T)) (w.setCell ⟨b,off,none⟩ v):=by
 refine h.change i hi (Met.setCell _ _ _) fun hP hO hs hx=>⟨bk b (.cells (cs.set off v).toArray T (0,0)),by simp[Zl,bk],fun b' o e=>?_,fun b' hb'=>?_,fun b' o e1 e2=>?_⟩
 ·unfold bk at e;split at e
  ·rename_i hb;subst hb;simp at e;subst e
   have:=Zbk w b' off v (hs _ _ hx);simpa using this
  ·cases e
 ·unfold bk at hb';split at hb'
  ·rename_i hb;subst hb;rw[show hO b'=_ from hx];simp
  ·simp at hb'
 ·rw[Zbj];exact e1;intro e;subst e;rw[show hO _=_ from hx]at e2;cases e2
def HO.toP(x:HO):HP:=⟨fun h=>x.p h h,fun _ _ s p=>x.mono _ _ _ _ s s p⟩
theorem St.freeze(i:Nat){x:HO}(hi:os[i]?=some x)(dj:Dj hV hA)(sV:Sub hV (hp w0))(h:St w0 hA hV ps os w):St w0 hA hV (x.toP::ps) (os.eraseIdx i) w:=by
 obtain⟨m,f,hN,hO,n1,n2,d,s1,s2,p,q⟩:=h;obtain⟨h1,h2,e,t1,t2,r,s⟩:=Sep.take i os hi q;have dN:Dj hN h1:=d.sub (Sub.refl _) t1;have dV:Dj hV h1:=fun b=>by
  cases eq:hV b with
  |none=>exact .inl rfl
  |some u=>
   refine .inr ?_;have hb:=J4 (sV _ _ eq);have hAe:hA b=none:=(dj b).resolve_left (by rw[eq];simp);cases eq2:h1 b with
   |none=>rfl
   |some z=>have:=t1 _ _ eq2;rw[n2 b hb hAe]at this;cases this
 have Zic:Sub (un hV hN) (un hV (un hN h1)):=fun b o eb=>by
  simp only[un]at eb ⊢;cases h1':hV b with
  |some u=>rw[h1']at eb;simpa using eb
  |none=>rw[h1']at eb;simp at eb;simp[eb]
 have ZtC:Sub h1 (un hV (un hN h1)):=fun b o eb=>by
  simp only[un];have z1:hV b=none:=(dV b).resolve_right (by rw[eb];simp);have z2:hN b=none:=(dN b).resolve_right (by rw[eb];simp);simp[z1,z2,eb]
 refine⟨m,f,un hN h1,h2,?_,?_,Dj.Xe (d.sub (Sub.refl _) t2) e,Sub.Vl s1 (t1.trans s2),t2.trans s2,?_,Sep.mono _ Zic (Sub.refl _) s⟩
 ·intro b hb hb2;have z:=n2 b hb hb2;cases eq:h1 b with
  |none=>simp[un,n1 b hb hb2,eq]
  |some u=>have:=t1 _ _ eq;rw[z]at this;cases this
 ·intro b hb hb2;cases eq:h2 b with
  |none=>rfl
  |some u=>have:=t2 _ _ eq;rw[n2 b hb hb2]at this;cases this
 ·intro y hy;rcases List.mem_cons.1 hy with rfl|hy
  ·exact x.mono _ _ _ _ Zic ZtC r
  ·exact y.mono _ _ Zic (p y hy)
end
end Go.Q
namespace Go.Q
section
variable{P:Program}{n:Fr}{ρ:Option Nat}{σ σ':List (Nat×Value)}{A A':World→Prop}{L l:List Oper}{Q:Cont}{o:Oper}{d:Nat}
theorem Zg8{P:Program}{r:Operand→Value}{o:Oper}{w w':World}{nx:Next}(h:(execOp r o).run P w=.ok nx w')(hn:∀d,nx≠.defer d):∀c,o.op≠.defer c:=fun c hc=>by
 simp only[execOp,hc,Sem.run_bind,Sem.run_pure]at h;cases hr:(resolve r c o.type).run P w with
 |ok d w1=>rw[hr]at h;simp at h;exact hn d h.1.symm
 |halt x w1=>rw[hr]at h;cases h
theorem TP{P:Program}{ρ:Option Nat}{r:Operand→Value}{o:Oper}{w w':World}{nx:Next}(h:(execOp r o).run P w=.ok nx w')(hn:∀d,nx≠.defer d):(o.semAt (FF ρ).round r).run P w=.ok nx w':=by
 rw[Oper.semAt_eq _ _ _ (Zg8 h hn)];exact h
theorem SP.op{β:Type}(G:β→Value)(A':β→World→Prop)(hg:gd L σ o.guard=some true)(hd:o.dst=some d)(hn:Nat.blt d n.n=true)
    (hv:∀a w,Env n σ a→A w→∃x w',(execOp a.eval o).run P w=.ok (.value (G x)) w'∧A' x w')
    (h:∀x,SP P n ρ ((d,G x)::σ) (A' x) L l Q):SP P n ρ σ A L (o::l) Q:=fun a w ha hw=>by
 obtain⟨x,w',hr,hA⟩:=hv a w ha hw;unfold wpListIn;rw[if_pos (ha.wanted hg)];refine⟨fun _ _=>trivial,?_⟩;rw[TP hr (fun d e=>by cases e),Oper.uponIn_value,hd];exact h x _ _ (ha.put _ (by simpa using hn)) hA
def Val(P:Program)(n:Fr)(σ:List (Nat×Value))(A:World→Prop)(o:Oper)(v:Value):Prop:=∀a w,Env n σ a→A w→(execOp a.eval o).run P w=.ok (.value v) w
theorem SP.val{v:Value}(hv:Val P n σ A o v)(hg:gd L σ o.guard=some true)(hd:o.dst=some d)(hn:Nat.blt d n.n=true)
    (h:SP P n ρ ((d,v)::σ) A L l Q):SP P n ρ σ A L (o::l) Q:=
 SP.op (β:=Unit) (fun _=>v) (fun _=>A) hg hd hn (fun a w ha hw=>⟨(),w,hv a w ha hw,hw⟩) (fun _=>h)
theorem SP.act(hg:gd L σ o.guard=some true)(hd:o.dst=none)
    (hv:∀a w,Env n σ a→A w→∃w',(execOp a.eval o).run P w=.ok .skip w'∧A' w')
    (h:SP P n ρ σ A' L l Q):SP P n ρ σ A L (o::l) Q:=fun a w ha hw=>by
 obtain⟨w',hr,hA⟩:=hv a w ha hw;unfold wpListIn;rw[if_pos (ha.wanted hg)];refine⟨fun _ _=>trivial,?_⟩;rw[TP hr (fun d e=>by cases e),Oper.uponIn_skip,hd];exact h _ _ ha hA
theorem SP.not(hg:gd L σ o.guard=some false)(hd:o.dst=some d)(hn:Nat.blt d n.n=true)(h:SP P n ρ ((d,undef)::σ) A L l Q):SP P n ρ σ A L (o::l) Q:=fun a w ha hw=>by
 unfold wpListIn;rw[if_neg (by rw[ha.wanted hg];simp),hd];exact⟨fun _ _=>trivial,h _ _ (ha.put _ (by simpa using hn)) hw⟩
theorem SP.ZbN{b:Bool}(hd:find d σ=some (.bool b))(ht:b=true→SP P n ρ ((d,.bool true)::σ) A L l Q)(hf:b=false→SP P n ρ ((d,.bool false)::σ) A L l Q):SP P n ρ σ A L l Q:=fun a w ha hw=>by
 have key:∀c,b=c→Env n ((d,.bool c)::σ) a:=fun c hc=>⟨ha.1,ha.2.1,fun t v hv=>by
  simp only[find]at hv;by_cases e:d=t
  ·subst e;simp at hv;subst hv;exact ha.2.2 d _ (hc▸hd)
  ·rw[Z46 e]at hv;exact ha.2.2 t v hv⟩
 cases hb:b with
 |true=>exact ht hb a w (key true hb) hw
 |false=>exact hf hb a w (key false hb) hw
theorem SP.ex{ι:Type}{I:ι→World→Prop}(hx:∀w,A w→∃x,I x w)(h:∀x,SP P n ρ σ (I x) L l Q):SP P n ρ σ A L l Q:=fun a w ha hw=>by
 obtain⟨x,k⟩:=hx w hw;exact h x a w ha k
theorem SP.have{q:Prop}(hx:∀w,A w→q)(h:q→SP P n ρ σ A L l Q):SP P n ρ σ A L l Q:=fun a w ha hw=>h (hx w hw) a w ha hw
theorem CP.ex{ι:Type}{I:ι→World→Prop}{c:Code}(hx:∀w,A w→∃x,I x w)(h:∀x,CP P n ρ σ (I x) c Q):CP P n ρ σ A c Q:=fun a w ha hw=>by
 obtain⟨x,k⟩:=hx w hw;exact h x a w ha k
theorem CP.have{q:Prop}{c:Code}(hx:∀w,A w→q)(h:q→CP P n ρ σ A c Q):CP P n ρ σ A c Q:=fun a w ha hw=>h (hx w hw) a w ha hw
theorem CP.imp{c:Code}(hx:∀w,A w→A' w)(h:CP P n ρ σ A' c Q):CP P n ρ σ A c Q:=fun a w ha hw=>h a w ha (hx w hw)
theorem SP.imp(hx:∀w,A w→A' w)(h:SP P n ρ σ A' L l Q):SP P n ρ σ A L l Q:=fun a w ha hw=>h a w ha (hx w hw)
end
section
variable{P:Program}{n:Fr}{ρ:Option Nat}{σ:List (Nat×Value)}{A:World→Prop}{L l:List Oper}{Q:Cont}{d:Nat}{dd:Option Nat}{t ty tr:TypeId}{x y z:Operand}{pos:String}{af:Array Edge}{g:Option (Nat×Bool)}{k yk:IntKind}{a b:Int}{p q:Bool}{v u:Value}
theorem Val.move(hx:ev σ x=some v):Val P n σ A ⟨dd,.move x,t,pos,af,g⟩ (v):=fun a w ha _=>by simp[execOp,ha.eval hx]
theorem Val.assign(hx:ev σ x=some v):Val P n σ A ⟨dd,.assign x,t,pos,af,g⟩ (v):=fun a w ha _=>by simp[execOp,ha.eval hx]
theorem Val.ZjE(hx:ev σ x=some (.bool true))(hy:ev σ y=some v):Val P n σ A ⟨dd,.pick x y z,t,pos,af,g⟩ (v):=fun a w ha _=>by simp[execOp,asBool,ha.eval hx,ha.eval hy]
theorem Val.ZjF(hx:ev σ x=some (.bool false))(hz:ev σ z=some v):Val P n σ A ⟨dd,.pick x y z,t,pos,af,g⟩ (v):=fun a w ha _=>by simp[execOp,asBool,ha.eval hx,ha.eval hz]
theorem Val.add(hx:ev σ x=some (.int k a))(hy:ev σ y=some (.int k b)):Val P n σ A ⟨dd,.binOp .add t x y ty,tr,pos,af,g⟩ (.int k (k.wrap (a+b))):=fun e w ha _=>by simp[execOp,ha.eval hx,ha.eval hy,eqGuard_add,binOp_add,Op.intArith]
theorem Val.sub(hx:ev σ x=some (.int k a))(hy:ev σ y=some (.int k b)):Val P n σ A ⟨dd,.binOp .sub t x y ty,tr,pos,af,g⟩ (.int k (k.wrap (a-b))):=fun e w ha _=>by simp[execOp,ha.eval hx,ha.eval hy,eqGuard_sub,binOp_sub,Op.intArith]
theorem Val.mul(hx:ev σ x=some (.int k a))(hy:ev σ y=some (.int k b)):Val P n σ A ⟨dd,.binOp .mul t x y ty,tr,pos,af,g⟩ (.int k (k.wrap (a*b))):=fun e w ha _=>by simp[execOp,ha.eval hx,ha.eval hy,eqGuard_mul,binOp_mul,Op.intArith]
theorem Val.quo(hx:ev σ x=some (.int k a))(hy:ev σ y=some (.int k b))(hb:b≠0):Val P n σ A ⟨dd,.binOp .quo t x y ty,tr,pos,af,g⟩ (.int k (k.wrap (a.tdiv b))):=fun e w ha _=>by simp[execOp,ha.eval hx,ha.eval hy,eqGuard_quo,binOp_quo,Op.intDiv,hb]
theorem Val.rem(hx:ev σ x=some (.int k a))(hy:ev σ y=some (.int k b))(hb:b≠0):Val P n σ A ⟨dd,.binOp .rem t x y ty,tr,pos,af,g⟩ (.int k (a.tmod b)):=fun e w ha _=>by simp[execOp,ha.eval hx,ha.eval hy,eqGuard_rem,binOp_rem,Op.intDiv,hb]
theorem Val.lss(hx:ev σ x=some (.int k a))(hy:ev σ y=some (.int k b)):Val P n σ A ⟨dd,.binOp .lss t x y ty,tr,pos,af,g⟩ (.bool (decide (a<b))):=fun e w ha _=>by simp[execOp,ha.eval hx,ha.eval hy,eqGuard_lss,binOp_lss]
theorem Val.leq(hx:ev σ x=some (.int k a))(hy:ev σ y=some (.int k b)):Val P n σ A ⟨dd,.binOp .leq t x y ty,tr,pos,af,g⟩ (.bool (decide (a≤b))):=fun e w ha _=>by simp[execOp,ha.eval hx,ha.eval hy,eqGuard_leq,binOp_leq]
theorem Val.gtr(hx:ev σ x=some (.int k a))(hy:ev σ y=some (.int k b)):Val P n σ A ⟨dd,.binOp .gtr t x y ty,tr,pos,af,g⟩ (.bool (decide (a>b))):=fun e w ha _=>by simp[execOp,ha.eval hx,ha.eval hy,eqGuard_gtr,binOp_gtr]
theorem Val.geq(hx:ev σ x=some (.int k a))(hy:ev σ y=some (.int k b)):Val P n σ A ⟨dd,.binOp .geq t x y ty,tr,pos,af,g⟩ (.bool (decide (a≥b))):=fun e w ha _=>by simp[execOp,ha.eval hx,ha.eval hy,eqGuard_geq,binOp_geq]
theorem Val.eql(hx:ev σ x=some (.int k a))(hy:ev σ y=some (.int k b)):Val P n σ A ⟨dd,.binOp .eql t x y ty,tr,pos,af,g⟩ (.bool (decide (a=b))):=fun e w ha _=>by simp[execOp,ha.eval hx,ha.eval hy,eqGuard_at_int,binOp_eql];rfl
theorem Val.neq(hx:ev σ x=some (.int k a))(hy:ev σ y=some (.int k b)):Val P n σ A ⟨dd,.binOp .neq t x y ty,tr,pos,af,g⟩ (.bool (decide (a≠b))):=fun e w ha _=>by simp[execOp,ha.eval hx,ha.eval hy,eqGuard_at_int,binOp_neq,bne];rfl
theorem Val.ZtD(hu:P.underlying t=some .bool)(hx:ev σ x=some (.bool p))(hy:ev σ y=some (.bool q)):Val P n σ A ⟨dd,.binOp .eql t x y ty,tr,pos,af,g⟩ (.bool (p==q)):=fun e w ha _=>by simp[execOp,ha.eval hx,ha.eval hy,eqGuard_at_bool,run_eql_bool w t p q hu]
theorem Val.Zlw(hx:ev σ x=some (.bool p)):Val P n σ A ⟨dd,.unOp .not t x,tr,pos,af,g⟩ (.bool (!p)):=fun e w ha _=>by simp[execOp,ha.eval hx,Op.unary]
theorem Val.conv(hs:(P.underlying t).isSome=true)(hu:P.underlying ty=some (.int yk))(hx:ev σ x=some (.int k a)):Val P n σ A ⟨dd,.convert t ty x,tr,pos,af,g⟩ (.int yk (yk.wrap a)):=fun e w ha _=>by
    have hk:P.intKind ty=yk:=by simp[Program.intKind,hu]
    have:=run_convert_int (P:=P) w t ty k a hs (by rw[hk];exact hu);rw[hk]at this;simp[execOp,ha.eval hx,this]
theorem Val.makeFunc{fn:Fn}{f1 f2:Array Operand}{us vs:List Value}(h1:evs σ f1.toList=some us)(h2:evs σ f2.toList=some vs):Val P n σ A ⟨dd,.makeFunc fn f1 f2,tr,pos,af,g⟩ (.func fn us.toArray vs.toArray):=fun e w ha _=>by
    have e1:f1.map e.eval=us.toArray:=by rw[←Array.toArray_toList (xs:=f1.map e.eval),Array.toList_map,ha.Z1i h1]
    have e2:f2.map e.eval=vs.toArray:=by rw[←Array.toArray_toList (xs:=f2.map e.eval),Array.toList_map,ha.Z1i h2]
    simp[execOp,Instr.makeFunc,e1,e2]
theorem Val.extract{i:Nat}{vs:Array Value}(hx:ev σ x=some (.tuple vs))(hi:vs[i]?=some v):Val P n σ A ⟨dd,.extract x i,tr,pos,af,g⟩ (v):=fun e w ha _=>by simp[execOp,ha.eval hx,Instr.extract,hi]
end
section
variable{P:Program}{n:Fr}{ρ:Option Nat}{σ:List (Nat×Value)}{w0:World}{hA hV:Hp}{ps:List HP}{os:List HO}{L l:List Oper}{Q:Cont}{d:Nat}{dd:Option Nat}{t ty tr:TypeId}{x y z:Operand}{pos:String}{af:Array Edge}{g:Option (Nat×Bool)}{v u:Value}
def nv:List Value→Nat→Option Value
 | [],_=>none
 |v::_,0=>some v
 | _::r,n+1=>nv r n
theorem Z5B:∀(l:List Value) (i:Nat),nv l i=l[i]?
 | [],_=>by simp[nv]
 | _::_,0=>by simp[nv]
 | _::r,n+1=>by simp[nv,Z5B r n]
def put:List Value→Nat→List Value→List Value
 |cs,0,[]=>cs
 | _::r,0,v::vs=>v::put r 0 vs
 | [],_,_=>[]
 |c::r,n+1,vs=>c::put r n vs
theorem ZbO:∀(cs vs:List Value),vs.length≤cs.length→put cs 0 vs=vs++cs.drop vs.length
 |cs,[],_=>by cases cs<;>simp[put]
 | [],v::vs,h=>by simp at h
 | _::r,v::vs,h=>by simp[put,ZbO r vs (by simpa using h)]
theorem put_eq:∀(cs:List Value) (o:Nat) (vs:List Value),o+vs.length≤cs.length→put cs o vs=cs.take o++vs++cs.drop (o+vs.length)
 |cs,0,vs,h=>by simpa using ZbO cs vs (by simpa using h)
 | [],o+1,vs,h=>by simp at h
 |c::r,o+1,vs,h=>by
  have:=put_eq r o vs (by simp at h;omega);simp[put,this,Nat.add_right_comm]
def one:List Value→Bool
 | []=>true
 |v::r=>v.oneCell'&&one r
theorem VD{v:Value}{r:List Value}(h:v.oneCell'=true)(hr:one r=true):one (v::r)=true:=by rw[one,h,hr];rfl
theorem Z7j:∀{l:List Value},one l=true→∀v∈l,v.oneCell'=true
 | [],_,v,h=>by simp at h
 |u::r,h,v,hv=>by
  simp[one]at h;rcases List.mem_cons.1 hv with rfl|hv
  ·exact h.1
  ·exact Z7j h.2 v hv
theorem Zg9(w:World){i:TypeInfo}(hi:P.info? t=some i)(hz:i.zero=some v) :
    (Instr.alloc t true (.tuple #[])).run P w=.ok (.pointer (some ⟨w.heap.size,0,none⟩)) (w.alloc (.cells v.cells t)):=by
 simp[Instr.alloc,zeroValue,typeInfo,hi,hz,newVar,newRow]
theorem Z47{t:TypeId}{cs:List Value}{s b:Nat}(hi:(P.info? t).map (fun i=>((i.zero.map fun z=>z.cells.toList),i.size,i.bytes))=some (some cs,s,b)) :
    ∃i z,P.info? t=some i∧i.zero=some z∧z.cells=cs.toArray∧i.size=s∧i.bytes=b:=by
 cases hq:P.info? t with
 |none=>simp[hq]at hi
 |some i=>
  simp[hq]at hi;obtain⟨⟨z,hz,rfl⟩,h2,h3⟩:=hi;exact⟨i,z,rfl,hz,by simp,h2,h3⟩
theorem SP.alloc{cs:List Value}{s b:Nat}(hi:(P.info? t).map (fun i=>((i.zero.map fun z=>z.cells.toList),i.size,i.bytes))=some (some cs,s,b))(hg:gd L σ g=some true)(hn:Nat.blt d n.n=true)
    (h:∀b,SP P n ρ ((d,.pointer (some ⟨b,0,none⟩))::σ) (St w0 hA hV ps (Zl b cs t::os)) L l Q):SP P n ρ σ (St w0 hA hV ps os) L (⟨some d,.alloc t,tr,pos,af,g⟩::l) Q:=by
 obtain⟨i,z,h1,h2,h3,-,-⟩:=Z47 hi;refine SP.op (fun b =>.pointer (some ⟨b,0,none⟩)) (fun b=>St w0 hA hV ps (Zl b cs t::os)) hg rfl hn (fun a w ha hw=>⟨w.heap.size,_,?_,hw.box cs t⟩) h;simp[execOp,Zg9 w h1 h2,h3]
theorem SP.box{cs:List Value}(hg:gd L σ g=some true)(hn:Nat.blt d n.n=true)(hx:ev σ x=some v)(hc:v.cells=cs.toArray)
    (h:∀b,SP P n ρ ((d,.pointer (some ⟨b,0,none⟩))::σ) (St w0 hA hV ps (Zl b cs t::os)) L l Q):SP P n ρ σ (St w0 hA hV ps os) L (⟨some d,.box t x,tr,pos,af,g⟩::l) Q:=by
 refine SP.op (fun b =>.pointer (some ⟨b,0,none⟩)) (fun b=>St w0 hA hV ps (Zl b cs t::os)) hg rfl hn (fun a w ha hw=>⟨w.heap.size,_,?_,hw.box cs t⟩) h;simp[execOp,ha.eval hx,Instr.box,newVar,newRow,hc]
theorem Met.setRow(w:World)(b:Nat)(cs:Array Value):Met w (w.setRow b cs):=⟨rfl,rfl,rfl,by simp⟩
theorem St.setRow{w:World}(i:Nat){b:Nat}{cs:List Value}{T:TypeId}(cs':List Value)(hi:os[i]?=some (Zl b cs T))(h:St w0 hA hV ps os w) :
    St w0 hA hV ps (os.set i (Zl b cs' T)) (w.setRow b cs'.toArray):=by
 refine h.change i hi (Met.setRow _ _ _) fun hP hO hs hx=>⟨bk b (.cells cs'.toArray T (0,0)),by simp[Zl,bk],fun b' o e=>?_,fun b' hb'=>?_,fun b' o e1 e2=>?_⟩
 ·unfold bk at e;split at e
  ·rename_i hb;subst hb;simp at e;subst e
   exact setRow_heap w b' _ _ T (0,0) (hs _ _ hx)
  ·cases e
 ·unfold bk at hb';split at hb'
  ·rename_i hb;subst hb;rw[show hO b'=_ from hx];simp
  ·simp at hb'
 ·show(w.setRow b cs'.toArray).heap[b']?=_;rw[setRow_other];exact e1;intro e;subst e;rw[show hO _=_ from hx]at e2;cases e2
theorem Jb{w:World}{b off:Nat}{cs vs:List Value}{T:TypeId}(hb:w.heap[b]?=some (.cells cs.toArray T (0,0)))(hs:(P.info? t).map (·.size)=some vs.length)(hv:v.cells=vs.toArray)(h1:one vs=true)
    (hl:off+vs.length≤cs.length):(storeVar t ⟨b,off,none⟩ v).run P w=.ok () (w.setRow b (put cs off vs).toArray):=by
 cases hq:P.info? t with
 |none=>simp[hq]at hs
 |some i=>
  simp[hq]at hs;have:=run_storeCells_at (P:=P) b off T vs 0 cs.toArray w hb (by simpa using hl) (Z7j h1);simp only[Nat.add_zero]at this;rw[put_eq cs off vs hl];simp[storeVar,sizeOf,typeInfo,hq,hs,hv,this]
theorem SP.store(i:Nat){b off:Nat}{cs vs:List Value}{T:TypeId}(hi:os[i]?=some (Zl b cs T))(hs:(P.info? t).map (·.size)=some vs.length)(hg:gd L σ g=some true)
    (hx:ev σ x=some (.pointer (some ⟨b,off,none⟩))) (hy:ev σ y=some v) (hv:v.cells=vs.toArray) (h1:one vs=true) (hl:Nat.ble (off+vs.length) cs.length=true)
    (h:SP P n ρ σ (St w0 hA hV ps (os.set i (Zl b (put cs off vs) T))) L l Q):SP P n ρ σ (St w0 hA hV ps os) L (⟨none,.store t x y,tr,pos,af,g⟩::l) Q:=by
 refine SP.act hg rfl (fun a w ha hw=>⟨_,?_,hw.setRow i (put cs off vs) hi⟩) h;simp[execOp,ha.eval hx,ha.eval hy,Instr.storeAt,Instr.sureAddr,Jb (hw.cell i hi) hs hv h1 (by simpa using hl)]
theorem ZaK{w:World}{X5:TypeDesc}(hu:P.underlying t=some X5):(isAgg t).run P w=.ok (match X5 with | .struct _ | .array _ _=>true | _=>false) w:=by
 unfold isAgg;rw[Sem.run_bind,run_underlying hu w];cases X5<;>simp
theorem WQ{w:World}{a:Addr}{X5:TypeDesc}(hu:P.underlying t=some X5)(hd:(match X5 with | .struct _ | .array _ _=>true | _=>false)=false)(hc:w.cell? a=some v):(loadVar t a).run P w=.ok v w:=by
 simp[loadVar,ZaK hu,hd,hc]
theorem Ke{w:World}{a:Addr}{X5:TypeDesc}{cs:List Value}(hu:P.underlying t=some X5)(hd:(match X5 with | .struct _ | .array _ _=>true | _=>false)=true)(hs:(P.info? t).map (·.size)=some cs.length)
    (hc:∀j u,cs[j]?=some u→w.cell? (a.add j)=some u):(loadVar t a).run P w=.ok (.agg cs.toArray) w:=by
 cases hq:P.info? t with
 |none=>simp[hq]at hs
 |some i=>
  simp[hq]at hs;have:=run_loadCells_list (P:=P) w a cs hc;simp[loadVar,ZaK hu,hd,sizeOf,typeInfo,hq,hs,this]
theorem Val.ZjG(i:Nat){b off:Nat}{cs:List Value}{T:TypeId}{X5:TypeDesc}(hi:os[i]?=some (Zl b cs T))(hu:P.underlying t=some X5)(hd:(match X5 with | .struct _ | .array _ _=>true | _=>false)=false)
    (hx:ev σ x=some (.pointer (some ⟨b,off,none⟩))) (hc:nv cs off=some v):Val P n σ (St w0 hA hV ps os) ⟨dd,.load t x,tr,pos,af,g⟩ (v):=by
 intro a w ha hw;have hcell:w.cell? ⟨b,off,none⟩=some v:=by
  rw[Z5B]at hc;simp[World.cell?,hw.cell i hi,hc]
 simp[execOp,ha.eval hx,Instr.loadAt,Instr.sureAddr,WQ hu hd hcell]
def seg:List Value→Nat→Nat→List Value
 | _,0,0=>[]
 | [],_,_=>[]
 |c::r,0,k+1=>c::seg r 0 k
 | _::r,o+1,k=>seg r o k
theorem KO:∀(cs:List Value) (o k:Nat) (j:Nat) (u:Value),(seg cs o k)[j]?=some u→cs[o+j]?=some u
 | _,0,0,j,u,h=>by simp[seg]at h
 | [],o+1,k,j,u,h=>by simp[seg]at h
 | [],0,k+1,j,u,h=>by simp[seg]at h
 |c::r,0,k+1,0,u,h=>by simpa[seg]using h
 |c::r,0,k+1,j+1,u,h=>by
  have:=KO r 0 k j u (by simpa[seg]using h);simpa using this
 |c::r,o+1,k,j,u,h=>by
  have:=KO r o k j u (by simpa[seg]using h);simpa[Nat.add_right_comm]using this
theorem Val.ZeI(i:Nat){b off k:Nat}{cs vs:List Value}{T:TypeId}{X5:TypeDesc}(hi:os[i]?=some (Zl b cs T))(hu:P.underlying t=some X5)(hd:(match X5 with | .struct _ | .array _ _=>true | _=>false)=true)(hs:(P.info? t).map (·.size)=some k)
    (hx:ev σ x=some (.pointer (some ⟨b,off,none⟩))) (hc:seg cs off k=vs) (hk:Nat.beq vs.length k=true):Val P n σ (St w0 hA hV ps os) ⟨dd,.load t x,tr,pos,af,g⟩ (.agg vs.toArray):=by
 intro a w ha hw;have hk':vs.length=k:=by simpa using hk
 have:=Ke (P:=P) (w:=w) (a:=⟨b,off,none⟩) (cs:=vs) hu hd (by rw[hk'];exact hs) (fun j u hj=>by
  have h1:=KO cs off k j u (hc▸hj);have hadd:(⟨b,off,none⟩:Addr).add j=⟨b,off+j,none⟩:=by unfold Addr.add;split<;>simp_all
  rw[hadd];simp[World.cell?,hw.cell i hi,h1])
 simp[execOp,ha.eval hx,Instr.loadAt,Instr.sureAddr,this]
theorem Z0t{w:World}{fs:Array Field}{f:Nat}{fd:Field}{s:Nat}{a:Addr}(hu:P.underlying t=some (.struct fs))(hf:fs[f]?=some fd)(hs:(P.info? fd.type).map (·.size)=some (s+1)) :
    (Instr.fieldAt t (.pointer (some a)) f).run P w=.ok (.pointer (some (a.add fd.offset))) w:=by
 cases hq:P.info? fd.type with
 |none=>simp[hq]at hs
 |some i=>
  simp[hq]at hs;simp[Instr.fieldAt,run_underlying hu,hf,Instr.sureAddr,fieldPlace,sizeOf,typeInfo,hq,hs]
theorem Val.fieldAddr{b off f s:Nat}{fs:Array Field}{fd:Field}(hu:P.underlying t=some (.struct fs))(hf:fs[f]?=some fd)(hs:(P.info? fd.type).map (·.size)=some (s+1))
    (hx:ev σ x=some (.pointer (some ⟨b,off,none⟩))):Val P n σ (St w0 hA hV ps os) ⟨dd,.fieldAddr t x f,tr,pos,af,g⟩ (.pointer (some ⟨b,off+fd.offset,none⟩)):=by
 intro a w ha hw;have hadd:(⟨b,off,none⟩:Addr).add fd.offset=⟨b,off+fd.offset,none⟩:=by unfold Addr.add;split<;>simp_all
 simp[execOp,ha.eval hx,Z0t hu hf hs,hadd]
end
end Go.Q
namespace Go.Q
structure Kd(α:Type) where
 sz:Nat
 rd:Hp→List Value→α→Prop
 mono:∀h h' cs x,Sub h h'→rd h cs x→rd h' cs x
 len:∀h cs x,rd h cs x→cs.length=sz
 cell:∀h cs x,rd h cs x→one cs=true
def Uz(ik:IntKind):Kd Int:=⟨1,fun _ cs x=>cs=[.int ik x],fun _ _ _ _ _ h=>h,fun _ _ _ h=>by simp[h],fun _ _ _ h=>by subst h;rfl⟩
def Zbp:Kd Bool:=⟨1,fun _ cs x=>cs=[.bool x],fun _ _ _ _ _ h=>h,fun _ _ _ h=>by simp[h],fun _ _ _ h=>by subst h;rfl⟩
def ZtE:Kd ByteArray:=⟨1,fun _ cs x=>cs=[.string x],fun _ _ _ _ _ h=>h,fun _ _ _ h=>by simp[h],fun _ _ _ h=>by subst h;rfl⟩
def At(h:Hp)(b o:Nat)(cs:List Value):Prop:=∃c T fr,h b=some (.cells c T fr)∧∀j u,cs[j]?=some u→c[o+j]?=some u
theorem At.mono{h h':Hp}{b o:Nat}{cs:List Value}(s:Sub h h'):At h b o cs→At h' b o cs:=fun⟨c,T,fr,e,k⟩=>⟨c,T,fr,s _ _ e,k⟩
theorem At.cell{w:World}{b o:Nat}{cs:List Value}(h:At (hp w) b o cs){j:Nat}{u:Value}(hj:cs[j]?=some u):w.cell? ((⟨b,o,none⟩:Addr).add j)=some u:=by
 obtain⟨c,T,fr,e,k⟩:=h;have hadd:(⟨b,o,none⟩:Addr).add j=⟨b,o+j,none⟩:=by unfold Addr.add;split<;>simp_all
 rw[hadd];have e':w.heap[b]?=some (.cells c T fr):=e;simp[World.cell?,e',k j u hj]
def Xb{α:Type}(k:Kd α)(h:Hp)(v:Value)(xs:List α):Prop:=
 ∃A cap,v=.slice A xs.length cap∧xs.length≤cap∧(A=none→xs=[]∧cap=0) ∧
  ∀a,A=some a→∀i x,xs[i]?=some x→a.spot=none∧∃cs,k.rd h cs x∧At h a.block (a.off+i*k.sz) cs
theorem Xb.mono{α:Type}{k:Kd α}{h h':Hp}{v:Value}{xs:List α}(s:Sub h h'):Xb k h v xs→Xb k h' v xs:=fun⟨A,cap,e,l,z,f⟩=>
 ⟨A,cap,e,l,z,fun a ha i x hx=>let ⟨sp,cs,p,q⟩:=f a ha i x hx;⟨sp,cs,k.mono _ _ _ _ s p,q.mono s⟩⟩
def Z9{α:Type}(k:Kd α)(v:Value)(xs:List α):HP:=⟨fun h=>Xb k h v xs,fun _ _ s=>Xb.mono s⟩
def TK{α:Type}(k:Kd α):Kd (List α):=⟨1,fun h cs xs=>∃v,cs=[v]∧Xb k h v xs,fun _ _ _ _ s ⟨v,e,p⟩=>⟨v,e,Xb.mono s p⟩,fun _ _ _ ⟨v,e,_⟩=>by simp[e],fun _ _ _ ⟨v,e,p⟩=>by obtain⟨_,_,rfl,-⟩:=p;subst e;rfl⟩
def Flat{α:Type}(k:Kd α)(a:Hp):List Value→List α→Prop
 |cells,[]=>cells=[]
 |cells,x::xs=>∃cs rest,cells=cs++rest∧k.rd a cs x∧Flat k a rest xs
theorem Flat.mono{α:Type}{k:Kd α}{a a':Hp}(s:Sub a a'):∀{xs:List α} {cells:List Value},Flat k a cells xs→Flat k a' cells xs
 | [],_,h=>h
 | _::_,_,⟨cs,rest,e,r,f⟩=>⟨cs,rest,e,k.mono _ _ _ _ s r,Flat.mono s f⟩
theorem Flat.len{α:Type}{k:Kd α}{a:Hp}:∀{xs:List α} {cells:List Value},Flat k a cells xs→cells.length=xs.length*k.sz
 | [],_,h=>by simp[show _=[] from h]
 | _::xs,_,⟨cs,rest,e,r,f⟩=>by subst e;rw[List.length_append,k.len _ _ _ r,Flat.len f,List.length_cons,Nat.add_mul];omega
theorem Z8D:∀{a b:List Value},one (a++b)=(one a&&one b)
 | [],b=>by simp[one]
 |v::r,b=>by simp[one,Z8D,Bool.and_assoc]
theorem Flat.one{α:Type}{k:Kd α}{a:Hp}:∀{xs:List α} {cells:List Value},Flat k a cells xs→Q.one cells=true
 | [],_,h=>by simp[show _=[] from h,Q.one]
 | _::xs,_,⟨cs,rest,e,r,f⟩=>by subst e;rw[Z8D,k.cell _ _ _ r,Flat.one f];rfl
theorem Flat.append{α:Type}{k:Kd α}{a:Hp}:∀{xs ys:List α} {c d:List Value},Flat k a c xs→Flat k a d ys→Flat k a (c++d) (xs++ys)
 | [],_,_,_,h,g=>by simpa[show _=[] from h]using g
 | _::xs,_,_,_,⟨cs,rest,e,r,f⟩,g=>⟨cs,rest++_,by rw[e,List.append_assoc],r,Flat.append f g⟩
theorem Flat.get{α:Type}{k:Kd α}{a:Hp}:∀{xs:List α} {cells:List Value} {i:Nat} {x:α},Flat k a cells xs→xs[i]?=some x→∃cs,k.rd a cs x∧∀j u,cs[j]?=some u→cells[i*k.sz+j]?=some u
 | [],_,i,x,_,h=>by simp at h
 | _::xs,_,0,x,⟨cs,rest,e,r,f⟩,h=>by
  simp at h;subst h;subst e;refine⟨cs,r,fun j u hj=>?_⟩;have hl:j<cs.length:=by
   rcases Nat.lt_or_ge j cs.length with g|g
   ·exact g
   ·rw[List.getElem?_eq_none g]at hj;cases hj
  simpa[List.getElem?_append_left hl]using hj
 | _::xs,_,i+1,x,⟨cs,rest,e,r,f⟩,h=>by
  subst e;obtain⟨cs',r',g⟩:=Flat.get (i:=i) f (by simpa using h);refine⟨cs',r',fun j u hj=>?_⟩;have hl:=k.len _ _ _ r;rw[List.getElem?_append_right (by rw[hl,Nat.add_mul];omega)];have:(i+1)*k.sz+j-cs.length=i*k.sz+j:=by rw[hl,Nat.add_mul];omega
  rw[this];exact g j u hj
theorem Flat.set{α:Type}{k:Kd α}{a:Hp}{y:α}{ds:List Value}(hy:k.rd a ds y):∀{xs:List α} {cells:List Value} {i:Nat},Flat k a cells xs→i<xs.length→Flat k a (put cells (i*k.sz) ds) (xs.set i y)
 | [],_,i,_,h=>by simp at h
 | _::xs,_,0,⟨cs,rest,e,r,f⟩,h=>by
  subst e;have h1:=k.len _ _ _ hy;have h2:=k.len _ _ _ r;refine⟨ds,rest,?_,hy,f⟩;rw[put_eq _ _ _ (by simp[h1,h2])];simp[h1,←h2]
 | _::xs,_,i+1,⟨cs,rest,e,r,f⟩,h=>by
  subst e;have h1:=k.len _ _ _ hy;have h2:=k.len _ _ _ r;have h3:=Flat.len f;have hi:i<xs.length:=by simpa using h
  refine⟨cs,put rest (i*k.sz) ds,?_,r,Flat.set hy f hi⟩;have hb:i*k.sz+ds.length≤rest.length:=by rw[h1,h3,←Nat.succ_mul];exact Nat.mul_le_mul_right _ hi
  rw[put_eq _ _ _ (by rw[List.length_append,Nat.add_mul,h2];omega),put_eq _ _ _ hb];have e1:(i+1)*k.sz=cs.length+i*k.sz:=by rw[h2,Nat.add_mul];omega
  rw[e1,List.take_length_add_append,show cs.length+i*k.sz+ds.length=cs.length+(i*k.sz+ds.length) from by omega,List.drop_length_add_append];simp
def Row(T:TypeId)(sz:Nat)(h:Hp)(v:Value)(n:Nat)(cells:List Value):Prop:=
 cells.length=n*sz∧((v=.slice none 0 0∧n=0)∨∃g cap cur,v=.slice (some ⟨g,0,none⟩) n cap∧h g=some (.cells cur T (0,0))∧n≤cap∧cap≤maxLen∧cur.size=cap*sz∧cur.toList.take (n*sz)=cells)
theorem Row.mono{T:TypeId}{sz:Nat}{h h':Hp}{v:Value}{n:Nat}{cells:List Value}(s:Sub h h'):Row T sz h v n cells→Row T sz h' v n cells:=fun⟨l,r⟩=>
 ⟨l,r.imp id fun⟨g,cap,cur,e,hg,z⟩=>⟨g,cap,cur,e,s _ _ hg,z⟩⟩
def Zg{α:Type}(k:Kd α)(T:TypeId)(v:Value)(xs:List α):HO:=⟨fun a h=>∃cells,Flat k a cells xs∧Row T k.sz h v xs.length cells,
 fun a a' b b' sa sb ⟨cells,f,r⟩=>⟨cells,f.mono sa,r.mono sb⟩⟩
theorem Zg.read{α:Type}{k:Kd α}{T:TypeId}{v:Value}{xs:List α}{a h h':Hp}(p:(Zg k T v xs).p a h)(sa:Sub a h')(sh:Sub h h'):Xb k h' v xs:=by
 obtain⟨cells,f,hl,⟨rfl,hn⟩|⟨g,cap,cur,rfl,hg,l,hm,hs,ht⟩⟩:=p
 ·obtain rfl:=List.eq_nil_of_length_eq_zero hn;exact⟨none,0,rfl,by simp,fun _=>⟨rfl,rfl⟩,fun a ha=>by cases ha⟩
 ·refine⟨_,cap,rfl,l,(fun e=>by cases e),fun a ha=>?_⟩;obtain rfl:(⟨g,0,none⟩:Addr)=a:=by simpa using ha
  intro i x hx;obtain⟨cs,r,q⟩:=f.get hx;refine⟨rfl,cs,k.mono _ _ _ _ sa r,cur,T,_,sh _ _ hg,fun j u hj=>?_⟩;have h1:=q j u hj;rw[←ht]at h1;have h2:i*k.sz+j<xs.length*k.sz:=by
   rcases Nat.lt_or_ge (i*k.sz+j) (xs.length*k.sz)with z|z
   ·exact z
   ·rw[List.getElem?_eq_none (by rw[List.length_take];omega)]at h1;cases h1
  rw[List.getElem?_take_of_lt h2]at h1;simpa using h1
def U8{α:Type}(k:Kd α)(p:Value)(x:α):HP:=⟨fun h=>∃b o cs,p=.pointer (some ⟨b,o,none⟩)∧k.rd h cs x∧At h b o cs,fun _ _ s ⟨b,o,cs,e,r,q⟩=>⟨b,o,cs,e,k.mono _ _ _ _ s r,q.mono s⟩⟩
def vaP{α:Type}(k:Kd α)(cs:List Value)(x:α):HP:=⟨fun h=>k.rd h cs x,fun _ _ s=>k.mono _ _ _ _ s⟩
def HO.ex{ι:Type}(f:ι→HO):HO:=⟨fun a h=>∃x,(f x).p a h,fun _ _ _ _ sa sb ⟨x,p⟩=>⟨x,(f x).mono _ _ _ _ sa sb p⟩⟩
def HO.Yr(q:Prop)(x:HO):HO:=⟨fun a h=>q∧x.p a h,fun _ _ _ _ sa sb ⟨e,p⟩=>⟨e,x.mono _ _ _ _ sa sb p⟩⟩
section
variable{w0 w:World}{hA hV:Hp}{ps:List HP}{os:List HO}{x y:HO}{q:Prop}
theorem St.pure(h:St w0 hA hV ps (HO.pure q::os) w):q∧St w0 hA hV ps os w:=by
 obtain⟨m,f,hN,hO,n1,n2,d,s1,s2,p,h1,h2,e,t1,t2,r,s⟩:=h;exact⟨r,m,f,hN,hO,n1,n2,d,s1,s2,p,Sep.mono os (Sub.refl _) t2 s⟩
theorem St.Yr(h:St w0 hA hV ps (HO.Yr q x::os) w):q∧St w0 hA hV ps (x::os) w:=by
 obtain⟨m,f,hN,hO,n1,n2,d,s1,s2,p,h1,h2,e,t1,t2,r,s⟩:=h;exact⟨r.1,m,f,hN,hO,n1,n2,d,s1,s2,p,h1,h2,e,t1,t2,r.2,s⟩
theorem St.open{ι:Type}{f:ι→HO}(h:St w0 hA hV ps (HO.ex f::os) w):∃z,St w0 hA hV ps (f z::os) w:=by
 obtain⟨m,g,hN,hO,n1,n2,d,s1,s2,p,h1,h2,e,t1,t2,⟨z,r⟩,s⟩:=h;exact⟨z,m,g,hN,hO,n1,n2,d,s1,s2,p,h1,h2,e,t1,t2,r,s⟩
theorem St.and(h:St w0 hA hV ps (HO.and x y::os) w):St w0 hA hV ps (x::y::os) w:=by
 obtain⟨m,g,hN,hO,n1,n2,d,s1,s2,p,h1,h2,e,t1,t2,⟨k1,k2,dj,u1,u2,r1,r2⟩,s⟩:=h;have e1:=e.sub u1 (Sub.refl _);have e2:=e.sub u2 (Sub.refl _);exact⟨m,g,hN,hO,n1,n2,d,s1,s2,p,k1,un k2 h2,Dj.YH dj e1,u1.trans t1,Sub.Vl (u2.trans t1) t2,r1,k2,h2,e2,Sub.Xe _ _,Sub.YH e2,r2,s⟩
theorem St.know{z:HP}(hz:∀h,All ps h→z.p h)(h:St w0 hA hV ps os w):St w0 hA hV (z::ps) os w:=by
 obtain⟨m,g,hN,hO,n1,n2,d,s1,s2,p,s⟩:=h;refine⟨m,g,hN,hO,n1,n2,d,s1,s2,fun y hy=>?_,s⟩;rcases List.mem_cons.1 hy with rfl|hy
 ·exact hz _ p
 ·exact p y hy
theorem St.begin(h:All ps hV):St w em hV ps [] w:=
 ⟨Met.refl w,fun _ _ e _=>e,em,em,fun _ _ _=>rfl,fun _ _ _=>rfl,Dj.YM _,Sub.em _,Sub.em _,h.mono (Sub.Xe _ _),trivial⟩
end
section
variable{P:Program}{n:Fr}{ρ:Option Nat}{σ:List (Nat×Value)}{w0:World}{hA hV:Hp}{ps:List HP}{os:List HO}{L l:List Oper}{Q:Cont}{d:Nat}{dd:Option Nat}{t ty tr:TypeId}{x y z:Operand}{pos:String}{af:Array Edge}{g:Option (Nat×Bool)}{v u:Value}{α β:Type}{k:Kd α}{xs:List α}
structure YG(w0:World)(hA hV:Hp):Prop where
 sub:Sub hV (hp w0)
 dj:Dj hV hA
theorem Val.Zlx(see:YG w0 hA hV)(i:Nat)(hi:ps[i]?=some (Z9 k v xs)){e:TypeId}(hu:P.underlying t=some (.slice e))(hx:ev σ x=some v):Val P n σ (St w0 hA hV ps os) ⟨dd,.call ⟨.builtin .len,#[x],#[t]⟩,tr,pos,af,g⟩ (.int .i64 (xs.length:Int)):=by
 intro a w ha hw;obtain⟨A,cap,rfl,-⟩:=St.Ur i hi see.sub see.dj hw;simp[execOp,resolve,invoke,builtin,ha.eval hx,Builtin.len_,run_underlying hu,goInt]
theorem Val.ZtF(see:YG w0 hA hV)(i:Nat){T:TypeId}(hi:os[i]?=some (Zg k T v xs)){e:TypeId}(hu:P.underlying t=some (.slice e))(hx:ev σ x=some v):Val P n σ (St w0 hA hV ps os) ⟨dd,.call ⟨.builtin .len,#[x],#[t]⟩,tr,pos,af,g⟩ (.int .i64 (xs.length:Int)):=by
 intro a w ha hw;obtain⟨cells,f,hl,⟨rfl,hn⟩|⟨g',cap,cur,rfl,-⟩⟩:=St.own i hi see.sub see.dj hw
 ·simp[execOp,resolve,invoke,builtin,ha.eval hx,Builtin.len_,run_underlying hu,goInt,hn]
 ·simp[execOp,resolve,invoke,builtin,ha.eval hx,Builtin.len_,run_underlying hu,goInt]
theorem Val.ZtG{s:ByteArray}(hu:P.underlying t=some .string)(hx:ev σ x=some (.string s)):Val P n σ (St w0 hA hV ps os) ⟨dd,.call ⟨.builtin .len,#[x],#[t]⟩,tr,pos,af,g⟩ (.int .i64 (s.size:Int)):=by
 intro a w ha hw;simp[execOp,resolve,invoke,builtin,ha.eval hx,Builtin.len_,run_underlying hu,goInt]
theorem run_indexAt{w:World}{e:TypeId}{i:Int}{ik:IntKind}{a:Addr}{len cap s:Nat}(hu:P.underlying t=some (.slice e))(hs:(P.info? e).map (·.size)=some s)(h0:0≤i)(h1:i<len) :
    (Instr.indexAt t (.slice (some a) len cap) (.int ik i)).run P w=.ok (.pointer (some (a.add (i.toNat*s)))) w:=by
 cases hq:P.info? e with
 |none=>simp[hq]at hs
 |some q=>
  simp[hq]at hs;simp[Instr.indexAt,run_underlying hu,asIntOf,h0,h1,sizeOf,typeInfo,hq,hs]
theorem SP.Zly(see:YG w0 hA hV)(i:Nat)(hi:ps[i]?=some (Z9 k v xs)){e:TypeId}(hu:P.underlying t=some (.slice e))(hs:(P.info? e).map (·.size)=some k.sz){ik:IntKind}{j:Int}{x0:α}(h0:0≤j)(hj:xs[j.toNat]?=some x0)(hg:gd L σ g=some true)(hn:Nat.blt d n.n=true)(hx:ev σ x=some v)(hy:ev σ y=some (.int ik j))
    (h:∀p,SP P n ρ ((d,p)::σ) (St w0 hA hV (U8 k p x0::ps) os) L l Q):SP P n ρ σ (St w0 hA hV ps os) L (⟨some d,.indexAddr t x y,tr,pos,af,g⟩::l) Q:=by
 have hlt:j<xs.length:=by
  rcases Nat.lt_or_ge j.toNat xs.length with h|h
  ·omega
  ·rw[List.getElem?_eq_none h]at hj;cases hj
 refine SP.op (fun p:Value=>p) (fun p=>St w0 hA hV (U8 k p x0::ps) os) hg rfl hn (fun a w ha hw=>?_) h;obtain⟨A,cap,rfl,l1,z,f⟩:=St.Ur i hi see.sub see.dj hw;cases A with
 |none=>rw[(z rfl).1]at hj;simp at hj
 |some ad=>
  obtain⟨hsp,-⟩:=f ad rfl _ _ hj;obtain⟨ab,ao,aq⟩:=ad;simp at hsp;subst hsp;refine⟨.pointer (some ((⟨ab,ao,none⟩:Addr).add (j.toNat*k.sz))),w,by simp[execOp,ha.eval hx,ha.eval hy,run_indexAt hu hs h0 hlt],hw.know fun hh ap=>?_⟩;have hadd:(⟨ab,ao,none⟩:Addr).add (j.toNat*k.sz)=⟨ab,ao+j.toNat*k.sz,none⟩:=by unfold Addr.add;split<;>simp_all
  obtain⟨A',cap',e',-,-,f'⟩:=ap _ (List.mem_of_getElem? hi);simp at e';obtain⟨rfl,-⟩:=e';obtain⟨-,cs,r,q⟩:=f' _ rfl _ _ hj;exact⟨ab,_,cs,by rw[hadd],r,q⟩
theorem SP.ZeJ(see:YG w0 hA hV)(i:Nat){x0:α}(hi:ps[i]?=some (U8 k v x0)){X5:TypeDesc}(hu:P.underlying t=some X5)(hd:(match X5 with | .struct _ | .array _ _=>true | _=>false)=true)(hs:(P.info? t).map (·.size)=some k.sz)(hg:gd L σ g=some true)(hn:Nat.blt d n.n=true)(hx:ev σ x=some v)
    (h:∀cs:List Value,SP P n ρ ((d,.agg cs.toArray)::σ) (St w0 hA hV (vaP k cs x0::ps) os) L l Q):SP P n ρ σ (St w0 hA hV ps os) L (⟨some d,.load t x,tr,pos,af,g⟩::l) Q:=by
 refine SP.op (fun cs:List Value =>.agg cs.toArray) (fun cs=>St w0 hA hV (vaP k cs x0::ps) os) hg rfl hn (fun a w ha hw=>?_) h;obtain⟨m,fr,hN,hO,n1,n2,dj,s1,s2,p,s⟩:=id hw;obtain⟨b,o,cs,rfl,r,q⟩:=p _ (List.mem_of_getElem? hi);have sub:Sub (un hV hN) (hp w):=Sub.Vl (fun b o e=>fr b o (see.sub b o e) (by
  rcases see.dj b with k|k
  ·rw[e]at k;cases k
  ·exact k)) s1
 have hl:=k.len _ _ _ r;have:=Ke (P:=P) (w:=w) (a:=⟨b,o,none⟩) (cs:=cs) hu hd (by rw[hl];exact hs) (fun j u hj=>(q.mono sub).cell hj);refine⟨cs,w,by simp[execOp,ha.eval hx,Instr.loadAt,Instr.sureAddr,this],m,fr,hN,hO,n1,n2,dj,s1,s2,fun y hy=>?_,s⟩;rcases List.mem_cons.1 hy with rfl|hy
 ·exact r
 ·exact p y hy
theorem Val.Z1L(see:YG w0 hA hV)(i:Nat){x0:α}(hi:ps[i]?=some (U8 k v x0))(hk:∀h cs,k.rd h cs x0→cs=[u]){X5:TypeDesc}(hu:P.underlying t=some X5)(hd:(match X5 with | .struct _ | .array _ _=>true | _=>false)=false)(hx:ev σ x=some v):Val P n σ (St w0 hA hV ps os) ⟨dd,.load t x,tr,pos,af,g⟩ (u):=by
 intro a w ha hw;obtain⟨b,o,cs,rfl,r,q⟩:=St.Ur i hi see.sub see.dj hw;have hcs:=hk _ _ r;subst hcs;have:=q.cell (j:=0) (u:=u) rfl;simp only[Addr.add,if_true]at this;simp[execOp,ha.eval hx,Instr.loadAt,Instr.sureAddr,WQ hu hd this]
theorem SP.Z2k(see:YG w0 hA hV)(i:Nat){x0:List β}{k':Kd β}(hi:ps[i]?=some (U8 (TK k') v x0)){e:TypeId}(hu:P.underlying t=some (.slice e))(hg:gd L σ g=some true)(hn:Nat.blt d n.n=true)(hx:ev σ x=some v)
    (h:∀s,SP P n ρ ((d,s)::σ) (St w0 hA hV (Z9 k' s x0::ps) os) L l Q):SP P n ρ σ (St w0 hA hV ps os) L (⟨some d,.load t x,tr,pos,af,g⟩::l) Q:=by
 refine SP.op (fun s:Value=>s) (fun s=>St w0 hA hV (Z9 k' s x0::ps) os) hg rfl hn (fun a w ha hw=>?_) h;obtain⟨m,fr,hN,hO,n1,n2,dj,s1,s2,p,s⟩:=id hw;obtain⟨b,o,cs,rfl,⟨sv,rfl,r⟩,q⟩:=p _ (List.mem_of_getElem? hi);have sub:Sub (un hV hN) (hp w):=Sub.Vl (fun b o e=>fr b o (see.sub b o e) (by
  rcases see.dj b with k|k
  ·rw[e]at k;cases k
  ·exact k)) s1
 have:=(q.mono sub).cell (j:=0) (u:=sv) rfl;simp only[Addr.add,if_true]at this;refine⟨sv,w,by simp[execOp,ha.eval hx,Instr.loadAt,Instr.sureAddr,WQ hu rfl this],m,fr,hN,hO,n1,n2,dj,s1,s2,fun y hy=>?_,s⟩;rcases List.mem_cons.1 hy with rfl|hy
 ·exact r
 ·exact p y hy
def Part{α β:Type}(k:Kd α)(off:Nat)(kf:Kd β)(f:α→β):Prop:=∀h cs x,k.rd h cs x→∃cs',kf.rd h cs' (f x)∧∀j u,cs'[j]?=some u→cs[off+j]?=some u
theorem SP.WG(see:YG w0 hA hV)(i:Nat){x0:α}(hi:ps[i]?=some (U8 k v x0)){kf:Kd β}{f:α→β}{fi s:Nat}{fs:Array Field}{fd:Field}(hu:P.underlying t=some (.struct fs))(hf:fs[fi]?=some fd)(hs:(P.info? fd.type).map (·.size)=some (s+1))(hpart:Part k fd.offset kf f)(hg:gd L σ g=some true)(hn:Nat.blt d n.n=true)(hx:ev σ x=some v)
    (h:∀p,SP P n ρ ((d,p)::σ) (St w0 hA hV (U8 kf p (f x0)::ps) os) L l Q):SP P n ρ σ (St w0 hA hV ps os) L (⟨some d,.fieldAddr t x fi,tr,pos,af,g⟩::l) Q:=by
 refine SP.op (fun p:Value=>p) (fun p=>St w0 hA hV (U8 kf p (f x0)::ps) os) hg rfl hn (fun a w ha hw=>?_) h;obtain⟨b,o,cs,rfl,r,q⟩:=St.Ur i hi see.sub see.dj hw;refine⟨.pointer (some ((⟨b,o,none⟩:Addr).add fd.offset)),w,by simp[execOp,ha.eval hx,Z0t hu hf hs],hw.know fun hh ap=>?_⟩;have hadd:(⟨b,o,none⟩:Addr).add fd.offset=⟨b,o+fd.offset,none⟩:=by unfold Addr.add;split<;>simp_all
 obtain⟨b',o',cs',e',r',q'⟩:=ap _ (List.mem_of_getElem? hi);simp at e';obtain⟨rfl,rfl⟩:=e';obtain⟨c2,r2,h2⟩:=hpart _ _ _ r';obtain⟨c,T,fr,hb,hq⟩:=q';exact⟨b,o+fd.offset,c2,by rw[hadd],r2,c,T,fr,hb,fun j u hj=>by rw[Nat.add_assoc];exact hq _ _ (h2 j u hj)⟩
end
section
variable{P:Program}{n:Fr}{ρ:Option Nat}{σ:List (Nat×Value)}{w0:World}{hA hV:Hp}{ps:List HP}{os:List HO}{L l:List Oper}{Q:Cont}{d:Nat}{tr:TypeId}{x:Operand}{pos:String}{af:Array Edge}{g:Option (Nat×Bool)}{aq:Array Operand}{ats:Array TypeId}{f:FuncId}{vals caps:List Value}
theorem Z5f{P:Program}{ρ:Option Nat}{k:Nat}{f:FuncId}{args:Array Value}{w:World}{R:Ending→World→Prop}(h:Calls P f args w R):CallsIn (FF ρ) k P f args w R:=by
 have h1:CallsIn Fence.wide k P f args w R:=callsIn_wide.2 h;exact h1
theorem Z2T(a b c:Hp):un (un a b) c=un a (un b c):=by funext x;simp[un,Option.or_assoc]
theorem Z04{w:World}{fv:Value}{args:Array Value}{b:Oper}(hfn:((P.funcs[f]?).map fun fn=>fn.body.isSome && !(fn.name == "runtime.NumGoroutine"))=some true) :
    (callFunc f args).run P w=.ok (.enter f args) w:=by
 cases hq:P.funcs[f]? with
 |none=>simp[hq]at hfn
 |some fn=>
  simp[hq]at hfn;obtain⟨h1,h2⟩:=hfn;obtain⟨c,hc⟩:=Option.isSome_iff_exists.1 h1;simp[callFunc,hq,hc,h2]
theorem SP.Ti(see:YG w0 hA hV)(K:Value→HO)(hfn:((P.funcs[f]?).map fun fn=>fn.body.isSome && !(fn.name == "runtime.NumGoroutine"))=some true)(hg:gd L σ g=some true)(hn:Nat.blt d n.n=true)(hx:ev σ x=some (.func (.func f) #[] caps.toArray))(has:evs σ aq.toList=some vals)
    (hc:∀w hP,St w0 hA hV ps os w→Sub hP (hp w)→All ps hP→XL P f (vals++caps).toArray em hP w K)
    (h:∀v,SP P n ρ ((d,v)::σ) (St w0 hA hV ps (K v::os)) L l Q):SP P n ρ σ (St w0 hA hV ps os) L (⟨some d,.call ⟨.value x,aq,ats⟩,tr,pos,af,g⟩::l) Q:=fun a w ha hw=>by
 unfold wpListIn;rw[if_pos (ha.wanted hg)];have hm:aq.map a.eval=vals.toArray:=by rw[←Array.toArray_toList (xs:=aq.map a.eval),Array.toList_map,ha.Z1i has]
 have hr:(execOp a.eval ⟨some d,.call ⟨.value x,aq,ats⟩,tr,pos,af,g⟩).run P w=.ok (.enter f (vals++caps).toArray) w:=by
  simp[execOp,resolve,ha.eval hx,Deferred.ofValue,invoke,hm,Z04 hfn (b:=default) (fv:=undef)]
 refine⟨fun _ _=>trivial,?_⟩;rw[TP hr (fun d e=>by cases e),Oper.uponIn_enter];refine⟨fun h=>(by cases h),Z5f ?_⟩;obtain⟨m,fr,hN,hO,n1,n2,dj,s1,s2,p,s⟩:=id hw;have sub:Sub (un hV hN) (hp w):=Sub.Vl (fun b o e=>fr b o (see.sub b o e) (by
  rcases see.dj b with k|k
  ·rw[e]at k;cases k
  ·exact k)) s1
 refine(hc w (un hV hN) hw sub p).mono fun e w' he=>?_;obtain⟨v,rfl,hs⟩:=he;refine h v _ _ (ha.put v (by simpa using hn)) ?_;have keep:∀hP,Sub hP (hp w)→All ps hP→True:=fun _ _ _=>trivial;obtain⟨m',fr',hN',hO',n1',n2',dj',s1',s2',k⟩:=hs;have keep:∀z:Hp,Sub z (hp w)→Sub z (hp w'):=fun z hz b o e=>fr' b o (hz b o e) rfl;have djw:∀z y:Hp,Sub z (hp w)→(∀b,b<w.heap.size→y b=none)→Dj z y:=fun z y hz hy b=>by
  cases e:z b with
  |none=>exact .inl rfl
  |some o=>exact .inr (hy b (J4 (hz _ _ e)))
 have Zid:∀b,b<w.heap.size→hO' b=none:=fun b hb=>n2' b hb rfl;refine⟨m.trans m',fun b o e1 e2=>fr' b o (fr b o e1 e2) rfl,un hN hN',un hO' hO,fun b hb h2=>by simp[un,n1 b hb h2,n1' b (Nat.lt_of_lt_of_le hb m.size) rfl],fun b hb h2=>by simp[un,n2 b hb h2,Zid b (Nat.lt_of_lt_of_le hb m.size)],?_,Sub.Vl (keep _ s1) s1',Sub.Vl s2' (keep _ s2),?_,?_⟩
 ·exact Dj.Xe (Dj.YH (djw _ _ s1 Zid) dj) (Dj.YH dj' (djw _ _ s2 (fun b hb=>n1' b hb rfl)).symm)
 ·rw[←Z2T];exact p.mono (Sub.Xe _ _)
 ·have d2:Dj hO' hO:=(djw _ _ s2 Zid).symm;rw[←Z2T];exact⟨hO',hO,d2,Sub.Xe _ _,Sub.YH d2,k,Sep.mono os (Sub.Xe _ _) (Sub.refl _) s⟩
theorem SP.Z05(see:YG w0 hA hV)(r:Value)(hfn:((P.funcs[f]?).map fun fn=>fn.body.isSome && !(fn.name == "runtime.NumGoroutine"))=some true)(hg:gd L σ g=some true)(hn:Nat.blt d n.n=true)(hx:ev σ x=some (.func (.func f) #[] caps.toArray))(has:evs σ aq.toList=some vals)
    (hc:∀w hP,St w0 hA hV ps os w→Sub hP (hp w)→All ps hP→XL P f (vals++caps).toArray em hP w fun v=>HO.pure (v=r))
    (h:SP P n ρ ((d,r)::σ) (St w0 hA hV ps os) L l Q):SP P n ρ σ (St w0 hA hV ps os) L (⟨some d,.call ⟨.value x,aq,ats⟩,tr,pos,af,g⟩::l) Q:=
 SP.Ti see _ hfn hg hn hx has hc fun v a w ha hw=>by
  obtain⟨e,hw2⟩:=hw.pure;subst e;exact h a w ha hw2
end
section
variable{P:Program}{n:Fr}{ρ:Option Nat}{σ:List (Nat×Value)}{w0:World}{hA hV:Hp}{ps:List HP}{os:List HO}
def slots:Nat→List Value→List (Nat×Value)
 | _,[]=>[]
 |i,v::r=>(i,v)::slots (i+1) r
theorem Z8F:∀(l:List Value) (i t:Nat) (v:Value),find t (slots i l)=some v→i≤t∧l[t-i]?=some v
 | [],i,t,v,h=>by simp[slots,find]at h
 |u::r,i,t,v,h=>by
  simp only[slots,find]at h;by_cases e:i=t
  ·subst e;simp at h;subst h;simp
  ·rw[Z46 e]at h;obtain⟨h1,h2⟩:=Z8F r (i+1) t v h;refine⟨by omega,?_⟩;have:t-i=(t-(i+1))+1:=by omega
   rw[this];simpa using h2
theorem Env.enter{fn:Func}{args:List Value}(hn:fn.ntmps=n.n∧n.ds=[])(ha:Nat.ble args.length n.n=true):Env n (slots 0 args) { tmps:=args.toArray++Array.replicate (fn.ntmps-args.toArray.size) undef,defers:=[] }:=by
 refine⟨?_,hn.2.symm,fun t v hv=>?_⟩
 ·have:=Nat.le_of_ble_eq_true ha;simp[hn.1];omega
 ·obtain⟨-,h2⟩:=Z8F args 0 t v hv;simp at h2;have hlt:t<args.length:=by
   rcases Nat.lt_or_ge t args.length with h|h
   ·exact h
   ·rw[List.getElem?_eq_none h]at h2;cases h2
  simp[Array.getElem?_append,hlt];rw[List.getElem?_eq_getElem hlt]at h2;simpa using h2
theorem XL.of{f:FuncId}{fn:Func}{c:Code}{args:List Value}{K:Value→HO}(hf:P.funcs[f]?=some fn)(hb:fn.body=some c)(hn:fn.ntmps=n.n∧n.ds=[])(ha:Nat.ble args.length n.n=true)
    (h0:St w0 hA hV ps os w0)
    (h:CP P n none (slots 0 args) (St w0 hA hV ps os) c (bodyPost P fn fun e w'=>∃v,e=.returned v∧Since w0 hA hV (K v).p w')):XL P f args.toArray hA hV w0 K:=
 calls_of_wp hf hb (wpIn_wide.1 (h _ _ (Env.enter hn ha) h0))
theorem St.done{w:World}{K:Value→HO}{v:Value}(hk:∀a b,All ps a→Sep a os b→(K v).p a b)(h:St w0 hA hV ps os w):∃u,Ending.returned v=.returned u∧Since w0 hA hV (K u).p w:=by
 obtain⟨m,fr,hN,hO,n1,n2,dj,s1,s2,p,s⟩:=h;exact⟨v,rfl,m,fr,hN,hO,n1,n2,dj,s1,s2,hk _ _ p s⟩
end
end Go.Q
namespace Go.Q
def iter{S R:Type}(F:S→Option (S⊕R)):Nat→S→Option R
 | 0,_=>none
 |n+1,s=>match F s with
  |none=>none
  |some (.inl t)=>iter F n t
  |some (.inr r)=>some r
def next{S R:Type}(F:S→Option (S⊕R))(n:Nat):S⊕R→Option R
 | .inl t=>iter F n t
 | .inr r=>some r
theorem Z6m{S R:Type}{F:S→Option (S⊕R)}:∀(n m:Nat) (s:S) (r:R),n≤m→iter F n s=some r→iter F m s=some r
 | 0,_,s,r,_,h=>by simp[iter]at h
 |n+1,0,s,r,hm,_=>by omega
 |n+1,m+1,s,r,hm,h=>by
  simp only[iter]at h ⊢;cases hF:F s with
  |none=>rw[hF]at h;simp at h
  |some o=>
   rw[hF]at h;cases o with
   |inl t=>exact Z6m n m t r (by omega) h
   |inr r'=>exact h
open Classical in
noncomputable def Zw{S R:Type}(F:S→Option (S⊕R))(s:S):Option R:=
 if h:∃p:Nat×R,iter F p.1 s=some p.2 then some (Classical.choose h).2 else none
theorem Z5C{S R:Type}{F:S→Option (S⊕R)}{s:S}{r:R}:Zw F s=some r↔∃n,iter F n s=some r:=by
 unfold Zw;constructor
 ·intro h;split at h
  ·rename_i hx
   simp at h;subst h;exact⟨_,Classical.choose_spec hx⟩
  ·simp at h
 ·rintro⟨n,h⟩;have hx:∃p:Nat×R,iter F p.1 s=some p.2:=⟨(n,r),h⟩
  rw[dif_pos hx];have h2:=Classical.choose_spec hx;have e1:=Z6m _ (max n (Classical.choose hx).1) _ _ (Nat.le_max_right _ _) h2;have e2:=Z6m _ (max n (Classical.choose hx).1) _ _ (Nat.le_max_left _ _) h;rw[e1]at e2;simpa using e2
theorem Z5g{S R:Type}(F:S→Option (S⊕R))(s:S):Zw F s=match F s with
    |none=>none
    |some (.inl t)=>Zw F t
    |some (.inr r)=>some r:=by
 apply Option.ext;intro r;rw[Z5C];constructor
 ·rintro⟨n,h⟩;cases n with
  |zero=>simp[iter]at h
  |succ n=>
   simp only[iter]at h;cases hF:F s with
   |none=>rw[hF]at h;simp at h
   |some o=>rw[hF]at h;cases o with
    |inl t=>exact Z5C.2 ⟨n,h⟩
    |inr r'=>exact h
 ·intro h;cases hF:F s with
  |none=>rw[hF]at h;simp at h
  |some o=>rw[hF]at h;cases o with
   |inl t=>obtain⟨n,hn⟩:=Z5C.1 h;exact⟨n+1,by simp[iter,hF,hn]⟩
   |inr r'=>exact⟨1,by simpa[iter,hF]using h⟩
theorem Jc{S R:Type}{F:S→Option (S⊕R)}{n:Nat}{s:S}{r:R}(h:iter F n s=some r):∃m o,m+1=n∧F s=some o∧next F m o=some r:=by
 cases n with
 |zero=>simp[iter]at h
 |succ n=>
  simp only[iter]at h;cases hF:F s with
  |none=>rw[hF]at h;simp at h
  |some o=>exact⟨n,o,rfl,rfl,by rw[hF]at h;cases o<;>exact h⟩
theorem bind_some{α β:Type}{x:Option α}{f:α→Option β}{r:β}(h:x.bind f=some r):∃y,x=some y∧f y=some r:=Option.bind_eq_some_iff.1 h
theorem TD{c:Prop}[Decidable c]{α:Type}{x y:Option α}{r:α}(h:(if c then x else y)=some r):(c∧x=some r)∨(¬c∧y=some r):=by
 by_cases hc:c
 ·exact .inl ⟨hc,by rwa [if_pos hc]at h⟩
 ·exact .inr ⟨hc,by rwa [if_neg hc]at h⟩
theorem Xn{c:Prop}[Decidable c]{α:Type}{x:Option α}{r:α}(h:(if c then x else none)=some r):c∧x=some r:=by
 rcases TD h with h|h
 ·exact h
 ·simp at h
def elt{α:Type}(xs:List α)(i:Int):Option α:=if 0≤i then xs[i.toNat]? else none
theorem Zie{α:Type}{xs:List α}{i:Int}{x:α}(h:elt xs i=some x):0≤i∧xs[i.toNat]?=some x:=by
 unfold elt at h;exact Xn h
section
variable{P:Program}{n:Fr}{ρ:Option Nat}{σ:List (Nat×Value)}{A:World→Prop}{L l:List Oper}{Q:Cont}{x y c:Code}{M:Act→World→Prop}
theorem CP.app{a:Act}{w:World}(ha:Env n σ a)(hw:A w)(h:CP P n ρ σ A c Q):c.wpIn (FF ρ) 0 P Q a w:=h a w ha hw
theorem CP.join(M:Act→World→Prop)(later:∀a w,M a w→y.wpIn (FF ρ) 0 P Q a w)(now:CP P n ρ σ A x (Exit.then M Q)):CP P n ρ σ A (.seq x y) Q:=fun a w ha hw=>
 wpIn_seq (wpIn_mono (now a w ha hw) (fun e a w q=>by cases e<;>first|exact q|exact later a w q))
theorem QE.meet(h:∀a w,Env n σ a→A w→M a w):QE n σ A (Exit.then M Q) .normal:=h
def Lower(I:Nat→Act→World→Prop)(m:Nat):Act→World→Prop:=fun a w=>∃k,k<m∧I k a w
theorem CP.loop(I:Nat→Act→World→Prop)(m0:Nat)(h0:∀a w,Env n σ a→A w→I m0 a w)
    (round:∀m a w,I m a w→c.wpIn (FF ρ) 0 P (Exit.then (Lower I m) Q) a w):CP P n ρ σ A (.loop c) Q:=fun a w ha hw=>by
 refine wpIn_loop (fun a w=>∃n,I n a w) (fun a w=>leastOf (fun n=>I n a w)) ⟨m0,h0 a w ha hw⟩ fun a w hI=>?_;refine wpIn_mono (round _ a w (leastOf_spec hI).1) fun e a' w' q=>?_;cases e<;>first|exact q|skip
 obtain⟨k,hlt,hI'⟩:=q;exact show(∃n,I n a' w')∧leastOf (fun n=>I n a' w')<leastOf (fun n=>I n a w) from ⟨⟨k,hI'⟩,Nat.lt_of_le_of_lt ((leastOf_spec ⟨k,hI'⟩).2 k hI') hlt⟩
theorem QE.lower{I:Nat→Act→World→Prop}{m:Nat}(k:Nat)(hk:k<m)(h:∀a w,Env n σ a→A w→I k a w):QE n σ A (Exit.then (Lower I m) Q) .normal:=fun a w ha hw=>⟨k,hk,h a w ha hw⟩
theorem CP.W9{t:Operand}{b:Bool}(ht:ev σ t=some (.bool b))(hb:b=true)(h:CP P n ρ σ A x Q):CP P n ρ σ A (.cond t x y) Q:=CP.cond ht (fun _=>h) (fun e=>by rw[hb]at e;cases e)
theorem CP.K4{t:Operand}{b:Bool}(ht:ev σ t=some (.bool b))(hb:b=false)(h:CP P n ρ σ A y Q):CP P n ρ σ A (.cond t x y) Q:=CP.cond ht (fun e=>by rw[hb]at e;cases e) (fun _=>h)
theorem SP.isT{d:Nat}{b:Bool}(hd:find d σ=some (.bool b))(hb:b=true)(h:SP P n ρ ((d,.bool true)::σ) A L l Q):SP P n ρ σ A L l Q:=SP.ZbN hd (fun _=>h) (fun e=>by rw[hb]at e;cases e)
theorem SP.isF{d:Nat}{b:Bool}(hd:find d σ=some (.bool b))(hb:b=false)(h:SP P n ρ ((d,.bool false)::σ) A L l Q):SP P n ρ σ A L l Q:=SP.ZbN hd (fun e=>by rw[hb]at e;cases e) (fun _=>h)
end
theorem All.nil(h:Hp):All [] h:=fun _ hx=>by cases hx
theorem All.cons{x:HP}{ps:List HP}{h:Hp}(p:x.p h)(q:All ps h):All (x::ps) h:=fun y hy=>by
 rcases List.mem_cons.1 hy with rfl|hy
 ·exact p
 ·exact q y hy
theorem All.get{x:HP}{ps:List HP}{h:Hp}(a:All ps h)(i:Nat)(hi:ps[i]?=some x):x.p h:=a x (List.mem_of_getElem? hi)
theorem Sep.get{os:List HO}{a b:Hp}(i:Nat){x:HO}(hi:os[i]?=some x)(h:Sep a os b):x.p a b:=by
 obtain⟨h1,h2,e,t1,t2,r,s⟩:=Sep.take i os hi h;exact x.mono _ _ _ _ (Sub.refl _) t1 r
theorem bf{b:Bool}(h:¬b=true):b=false:=Bool.eq_false_iff.2 h
theorem WH{a b c:Bool}(h:a=true)(hb:b=c):c=(a&&b):=by rw[h,hb];rfl
theorem WI{a b:Bool}(h:a=false):false=(a&&b):=by rw[h];rfl
theorem Vi{a b:Bool}(h:a=true):true=(a||b):=by rw[h];rfl
theorem Vj{a b c:Bool}(h:a=false)(hb:b=c):c=(a||b):=by rw[h,hb];rfl
section
variable{w0 w:World}{hA hV:Hp}{ps:List HP}{os:List HO}
theorem St.Zp0(k:Nat)(h:St w0 hA hV ps os w):St w0 hA hV (ps.drop k) os w:=h.imp (fun _ a x hx=>a x (List.mem_of_mem_drop hx)) (fun _ _ _ s=>s)
theorem Sep.drop:∀(k:Nat) (l:List HO) {a b:Hp},Sep a l b→Sep a (l.drop k) b
 | 0,_,_,_,h=>h
 | _+1,[],_,_,h=>h
 |k+1,x::xs,a,b,⟨h1,h2,d,s1,s2,p,q⟩=>Sep.drop k xs (Sep.mono xs (Sub.refl _) s2 q)
theorem St.Zp1(k:Nat)(h:St w0 hA hV ps os w):St w0 hA hV ps (os.drop k) w:=h.imp (fun _ a=>a) (fun _ _ _ s=>Sep.drop k os s)
theorem St.Z8G(i:Nat){x y:HO}(hi:os[i]?=some x)(hxy:∀a b,x.p a b→y.p a b)(h:St w0 hA hV ps os w):St w0 hA hV ps (os.set i y) w:=h.imp (fun _ a=>a) (fun a b _ s=>by
 obtain⟨h1,h2,e,t1,t2,r,s⟩:=Sep.take i os hi s;have:=Sep.back i os (x:=y) (by rcases Nat.lt_or_ge i os.length with g|g;exact g;rw[List.getElem?_eq_none g]at hi;cases hi) e (hxy _ _ r) s;exact Sep.mono _ (Sub.refl _) (Sub.Vl t1 t2) this)
end
section
variable{P:Program}{n:Fr}{ρ:Option Nat}{σ:List (Nat×Value)}{w0:World}{hA hV:Hp}{ps:List HP}{os:List HO}{Q:Cont}{c:Code}{α:Type}{k:Kd α}{xs:List α}{v p u:Value}{dd:Option Nat}{t tr:TypeId}{x y:Operand}{pos:String}{af:Array Edge}{g:Option (Nat×Bool)}
def ZeK(v:Value)(sz:Nat)(j:Int)(p:Value):Prop:=∃b o len cap,v=.slice (some ⟨b,o,none⟩) len cap∧0≤j∧j<len∧p=.pointer (some ⟨b,o+j.toNat*sz,none⟩)
def atP(p:Value)(cs:List Value):HP:=⟨fun h=>∃b o,p=.pointer (some ⟨b,o,none⟩)∧At h b o cs,fun _ _ s ⟨b,o,e,q⟩=>⟨b,o,e,q.mono s⟩⟩
theorem Val.ZlA{A:World→Prop}{e:TypeId}{ik:IntKind}{j:Int}{s:Nat}(hp:ZeK v s j p)(hu:P.underlying t=some (.slice e))(hs:(P.info? e).map (·.size)=some s)(hx:ev σ x=some v)(hy:ev σ y=some (.int ik j)) :
    Val P n σ A ⟨dd,.indexAddr t x y,tr,pos,af,g⟩ p:=fun a w ha _=>by
 obtain⟨b,o,len,cap,rfl,h0,h1,rfl⟩:=hp;have hadd:(⟨b,o,none⟩:Addr).add (j.toNat*s)=⟨b,o+j.toNat*s,none⟩:=by unfold Addr.add;split<;>simp_all
 simp[execOp,ha.eval hx,ha.eval hy,run_indexAt hu hs h0 h1,hadd]
theorem CP.Z1W{ι:Type}(see:YG w0 hA hV)(i:Nat){x0:α}(hi:ps[i]?=some (U8 k p x0))(C:ι→List Value)(F:ι→List HP)(hk:∀h cs,k.rd h cs x0→∃z,cs=C z∧All (F z) h)
    (h:∀z,CP P n ρ σ (St w0 hA hV (atP p (C z)::F z++ps) os) c Q):CP P n ρ σ (St w0 hA hV ps os) c Q:=fun a w ha hw=>by
 obtain⟨m,fr,hN,hO,n1,n2,dj,s1,s2,ap,s⟩:=hw;obtain⟨b,o,cs,rfl,r,q⟩:=ap _ (List.mem_of_getElem? hi);obtain⟨z,rfl,f⟩:=hk _ _ r;refine h z a w ha ⟨m,fr,hN,hO,n1,n2,dj,s1,s2,fun y hy=>?_,s⟩;simp only[List.cons_append,List.mem_cons,List.mem_append]at hy;rcases hy with rfl|hy|hy
 ·exact⟨b,o,rfl,q⟩
 ·exact f y hy
 ·exact ap y hy
theorem Val.Zkp(see:YG w0 hA hV)(i:Nat){cs:List Value}(hi:ps[i]?=some (atP p cs)){X5:TypeDesc}(hu:P.underlying t=some X5)(hd:(match X5 with | .struct _ | .array _ _=>true | _=>false)=true)(hs:(P.info? t).map (·.size)=some cs.length)(hx:ev σ x=some p) :
    Val P n σ (St w0 hA hV ps os) ⟨dd,.load t x,tr,pos,af,g⟩ (.agg cs.toArray):=fun a w ha hw=>by
 obtain⟨b,o,rfl,q⟩:=St.Ur i hi see.sub see.dj hw;have:=Ke (P:=P) (w:=w) (a:=⟨b,o,none⟩) (cs:=cs) hu hd hs (fun j u hj=>q.cell hj);simp[execOp,ha.eval hx,Instr.loadAt,Instr.sureAddr,this]
theorem Val.Zkq(see:YG w0 hA hV)(i:Nat)(hi:ps[i]?=some (atP p [u])){X5:TypeDesc}(hu:P.underlying t=some X5)(hd:(match X5 with | .struct _ | .array _ _=>true | _=>false)=false)(hx:ev σ x=some p) :
    Val P n σ (St w0 hA hV ps os) ⟨dd,.load t x,tr,pos,af,g⟩ u:=fun a w ha hw=>by
 obtain⟨b,o,rfl,q⟩:=St.Ur i hi see.sub see.dj hw;have:=q.cell (j:=0) (u:=u) rfl;simp only[Addr.add,if_true]at this;simp[execOp,ha.eval hx,Instr.loadAt,Instr.sureAddr,WQ hu hd this]
end
end Go.Q
namespace Go.Q
def Opens(P:Program)(t:TypeId){α:Type}(k:Kd α)(wf:α→Prop):Prop:=
 ∀{H:Type} (enc:TypeId×Value→H) (W:World) (fuel:Nat) (cs:List Value) (d:DataW H) (ps:List MemPlace),DataW.trod enc P W 0 (fun _=>true) true fuel t cs=some (d,ps)→∃x,k.rd (hp W) cs x∧wf x
section
variable{P:Program}{t e:TypeId}{α β:Type}{k:Kd α}{wf:α→Prop}
theorem Opens.int{ik:IntKind}(hu:P.underlying t=some (.int ik)):Opens P t (Uz ik) (fun x=>(Lit.int ik x).wf=true):=by
 intro H enc W fuel cs d ps h;cases fuel with
 |zero=>simp[DataW.trod]at h
 |succ n=>
  unfold DataW.trod at h;rw[hu]at h;split at h<;>first|(simp at *;done)|skip
  rename_i k0 k' n' heq
  simp at heq;subst heq;split at h
  ·rename_i hk;obtain⟨rfl,hw⟩:=hk;exact⟨n',rfl,hw⟩
  ·cases h
theorem Opens.bool(hu:P.underlying t=some .bool):Opens P t Zbp (fun _=>True):=by
 intro H enc W fuel cs d ps h;cases fuel with
 |zero=>simp[DataW.trod]at h
 |succ n=>
  unfold DataW.trod at h;rw[hu]at h;split at h<;>first|(simp at *;done)|skip
  exact⟨_,rfl,trivial⟩
theorem ZbP{γ δ:Type}{f:γ→Option δ}:∀{l:List γ} {r:List δ},l.mapM f=some r→r.length=l.length∧∀(i:Nat) x,l[i]?=some x→∃y,f x=some y
 | [],r,h=>by simp at h;subst h;exact⟨rfl,fun i x hx=>by simp at hx⟩
 |z::l,r,h=>by
  simp only[List.mapM_cons,Option.bind_eq_bind,Option.pure_def]at h;cases hz:f z with
  |none=>simp[hz]at h
  |some y=>
   cases hr:l.mapM f with
   |none=>simp[hz,hr]at h
   |some ys=>
    simp[hz,hr]at h;subst h;obtain⟨h1,h2⟩:=ZbP hr;refine⟨by simp[h1],fun i x hx=>?_⟩;cases i with
    |zero=>simp at hx;subst hx;exact⟨y,hz⟩
    |succ i=>exact h2 i x (by simpa using hx)
theorem Zif{W:World}{a:Addr}:∀{n:Nat} {cs:List Value},W.cells? 0 a n=some cs→cs.length=n∧∀j u,cs[j]?=some u→W.cell? (a.add j)=some u:=by
 intro n cs h;unfold World.cells? at h;rw[if_pos (Nat.zero_le _)]at h;have key:∀(l:List Nat) (cs:List Value),l.mapM (fun i=>W.cell? (a.add i))=some cs→cs.length=l.length∧∀(j:Nat) u,cs[j]?=some u→∃i,l[j]?=some i∧W.cell? (a.add i)=some u:=by
  intro l;induction l with
  |nil=>intro cs h;simp at h;subst h;exact⟨rfl,fun j u hj=>by simp at hj⟩
  |cons z l ih=>
   intro cs h;simp only[List.mapM_cons,Option.bind_eq_bind,Option.pure_def]at h;cases hz:W.cell? (a.add z)with
   |none=>simp[hz]at h
   |some y=>
    cases hr:l.mapM (fun i=>W.cell? (a.add i))with
    |none=>simp[hz,hr]at h
    |some ys=>
     simp[hz,hr]at h;subst h;obtain⟨h1,h2⟩:=ih ys hr;refine⟨by simp[h1],fun j u hj=>?_⟩;cases j with
     |zero=>simp at hj;subst hj;exact⟨z,rfl,hz⟩
     |succ j=>simpa using h2 j u (by simpa using hj)
 obtain⟨h1,h2⟩:=key _ _ h;refine⟨by simpa using h1,fun j u hj=>?_⟩;obtain⟨i,hi,hc⟩:=h2 j u hj;have:i=j:=by
  rw[List.getElem?_range]at hi
  ·simpa using hi.symm
  ·rcases Nat.lt_or_ge j n with h|h
   ·exact h
   ·rw[List.getElem?_eq_none (by simpa using h)]at hi;cases hi
 subst this;exact hc
theorem ZdA{W:World}{b o:Nat}{cs:List Value}(hne:cs≠[])(h:∀j u,cs[j]?=some u→W.cell? ((⟨b,o,none⟩:Addr).add j)=some u):At (hp W) b o cs:=by
 cases cs with
 |nil=>exact absurd rfl hne
 |cons c0 r=>
  have add:∀j,(⟨b,o,none⟩:Addr).add j=⟨b,o+j,none⟩:=fun j=>by unfold Addr.add;split<;>simp_all
  have h0:=h 0 c0 rfl;rw[add]at h0;unfold World.cell? at h0;split at h0
  ·rename_i c T fr hb
   refine⟨c,T,fr,hb,fun j u hj=>?_⟩;have:=h j u hj;rw[add]at this;have hb':W.heap[b]?=some (.cells c T fr):=hb;simpa[World.cell?,hb']using this
  ·cases h0
theorem cell_spot{W:World}{a:Addr}{u:Value}(h:W.cell? a=some u):a.spot=none:=by
 unfold World.cell? at h;split at h
 ·split at h
  ·cases h
  ·rename_i hs;simpa using hs
 ·cases h
theorem Opens.slice(hu:P.underlying t=some (.slice e))(he:Opens P e k wf)(hs:P.cellsOf e=k.sz)(hk:0<k.sz):Opens P t (TK k) (fun xs=>xs.length≤maxLen∧∀x∈xs,wf x):=by
 intro H enc W fuel cs d ps h;cases fuel with
 |zero=>simp[DataW.trod]at h
 |succ n=>
  unfold DataW.trod at h;rw[hu]at h;split at h<;>first|(simp at *;done)|skip
  ·exact⟨[],⟨_,rfl,none,0,rfl,by simp,fun _=>⟨rfl,rfl⟩,fun a ha=>by cases ha⟩,by simp[maxLen],fun x hx=>by cases hx⟩
  ·rename_i e' a len cap heq
   simp at heq;subst heq;dsimp only at h;split at h
   ·rename_i hb
    cases hm:(List.range len).mapM (fun i=>(W.cells? 0 (a.add (i*P.cellsOf e)) (P.cellsOf e)).bind (DataW.trod enc P W 0 (fun _=>true) true n e))with
    |none=>rw[hm]at h;simp at h
    |some es=>
     obtain⟨-,hg⟩:=ZbP hm;have key:∀i,i<len→∃x,wf x∧∃cs,k.rd (hp W) cs x∧cs.length=k.sz∧∀j u,cs[j]?=some u→W.cell? ((a.add (i*k.sz)).add j)=some u:=fun i hi=>by
      obtain⟨y,hy⟩:=hg i i (by rw[List.getElem?_range hi]);cases hc:W.cells? 0 (a.add (i*P.cellsOf e)) (P.cellsOf e)with
      |none=>rw[hc]at hy;simp at hy
      |some cs=>
       rw[hc]at hy;simp at hy;obtain⟨x,hx,hw⟩:=he enc W n cs y.1 y.2 (by simpa using hy);obtain⟨h1,h2⟩:=Zif hc;exact⟨x,hw,cs,hx,by rw[h1,hs],by rw[hs]at h2;exact h2⟩
     have ch:∃xs:List α,xs.length=len∧∀i x,xs[i]?=some x→wf x∧∃cs,k.rd (hp W) cs x∧cs.length=k.sz∧∀j u,cs[j]?=some u→W.cell? ((a.add (i*k.sz)).add j)=some u:=by
      clear h hm hg hb;induction len with
      |zero=>exact⟨[],rfl,fun i x hx=>by simp at hx⟩
      |succ m ih=>
       obtain⟨xs,h1,h2⟩:=ih (fun i hi=>key i (by omega));obtain⟨x,hx⟩:=key m (by omega);refine⟨xs ++ [x],by simp[h1],fun i y hy=>?_⟩;rcases Nat.lt_or_ge i xs.length with hl|hl
       ·rw[List.getElem?_append_left hl]at hy;exact h2 i y hy
       ·rw[List.getElem?_append_right hl]at hy;have:i-xs.length=0:=by
         rcases Nat.eq_zero_or_pos (i-xs.length)with z|z
         ·exact z
         ·rw[List.getElem?_eq_none (by simp;omega)]at hy;cases hy
        have e1:i=m:=by omega
        subst e1;rw[this]at hy;simp at hy;subst hy;exact hx
     obtain⟨xs,rfl,hxs⟩:=ch;refine⟨xs,⟨_,rfl,some a,cap,rfl,hb.2.1,(fun e=>by cases e),fun a' ha i x hx=>?_⟩,Nat.le_trans hb.2.1 hb.2.2,fun x hx=>?_⟩
     ·obtain rfl:a=a':=by simpa using ha
      have spot:a.spot=none:=by
       have h0:0<xs.length:=by
        rcases Nat.eq_zero_or_pos xs.length with z|z
        ·rw[List.getElem?_eq_none (by omega)]at hx;cases hx
        ·exact z
       obtain⟨-,cs,hr,hl,hc⟩:=hxs 0 xs[0] (by simp);have:0<cs.length:=by omega
       have:=cell_spot (hc 0 cs[0] (by simp));simpa[Addr.add]using this
      obtain⟨-,cs,hr,hl,hc⟩:=hxs i x hx;refine⟨spot,cs,hr,ZdA (fun e=>by subst e;simp at hl;omega) fun j u hj=>?_⟩;have:=hc j u hj;obtain⟨ab,ao,aq⟩:=a;simp at spot;subst spot;have hadd:(⟨ab,ao,none⟩:Addr).add (i*k.sz)=⟨ab,ao+i*k.sz,none⟩:=by unfold Addr.add;split<;>simp_all
      rwa [hadd]at this
     ·obtain⟨i,hi⟩:=List.getElem?_of_mem hx;exact(hxs i x hi).1
   ·cases h
end
theorem Since.below{w w':World}{hV:Hp}{F:Hp→Hp→Prop}(h:Since w em hV F w'):Go.RowKit.Below w.heap.size w w':=by
 obtain⟨m,f,-⟩:=h;refine⟨m.os,m.tape,m.output,m.size,fun k hk=>?_⟩;have:w.heap[k]?=some w.heap[k]:=by simp[hk]
 rw[this];exact f k _ this rfl
theorem Since.known{w w':World}{hA hV:Hp}{q:Prop}(h:Since w hA hV (HO.pure q).p w'):q:=by
 obtain⟨-,-,hN,hO,-,-,-,-,-,h⟩:=h;exact h
end Go.Q
namespace Go.Q
def Fam(a:Hp)(l:List HO)(b:Hp):Prop:=∃H:Nat→Hp,(∀i j,i≠j→Dj (H i) (H j))∧(∀i,Sub (H i) b)∧∀(i:Nat) x,l[i]?=some x→x.p a (H i)
theorem Sep.fam:∀{l:List HO} {a b:Hp},Sep a l b→Fam a l b
 | [],a,b,_=>⟨fun _=>em,fun _ _ _=>Dj.YM _,fun _=>Sub.em _,fun i x h=>by simp at h⟩
 |x::xs,a,b,⟨h1,h2,d,s1,s2,p,q⟩=>by
  obtain⟨H,k1,k2,k3⟩:=Sep.fam q;refine⟨fun i=>match i with | 0=>h1|i+1=>H i,fun i j hij=>?_,fun i=>?_,fun i y hy=>?_⟩
  ·cases i with
   |zero=>cases j with
    |zero=>exact absurd rfl hij
    |succ j=>exact d.sub (Sub.refl _) (k2 j)
   |succ i=>cases j with
    |zero=>exact(d.sub (Sub.refl _) (k2 i)).symm
    |succ j=>exact k1 i j (by omega)
  ·cases i with
   |zero=>exact s1
   |succ i=>exact(k2 i).trans s2
  ·cases i with
   |zero=>simp at hy;subst hy;exact p
   |succ i=>exact k3 i y (by simpa using hy)
def big(H:Nat→Hp):Nat→Hp
 | 0=>em
 |n+1=>un (H 0) (big (fun i=>H (i+1)) n)
theorem ZdM{b:Hp}:∀{n:Nat} {H:Nat→Hp},(∀i,Sub (H i) b)→Sub (big H n) b
 | 0,_,_=>Sub.em _
 |n+1,H,h=>Sub.Vl (h 0) (ZdM fun i=>h (i+1))
theorem ZbQ{k:Hp}:∀{n:Nat} {H:Nat→Hp},(∀i,Dj k (H i))→Dj k (big H n)
 | 0,_,_=>Dj.WM _
 |n+1,H,h=>Dj.YH (h 0) (ZbQ fun i=>h (i+1))
theorem Fam.sep:∀{l:List HO} {a b:Hp},Fam a l b→Sep a l b
 | [],_,_,_=>trivial
 |x::xs,a,b,⟨H,k1,k2,k3⟩=>by
  have:Fam a xs (big (fun i=>H (i+1)) xs.length):=by
   have sub:∀(n:Nat) (G:Nat→Hp),(∀i j,i≠j→Dj (G i) (G j))→∀i,i<n→Sub (G i) (big G n):=by
    intro n;induction n with
    |zero=>intro G _ i hi;omega
    |succ n ih=>
     intro G hd i hi;cases i with
     |zero=>exact Sub.Xe _ _
     |succ i=>exact(ih (fun i=>G (i+1)) (fun i j h=>hd _ _ (by omega)) i (by omega)).trans (Sub.YH (ZbQ fun j=>hd _ _ (by omega)))
   refine⟨fun i=>if i<xs.length then H (i+1)else em,fun i j hij=>?_,fun i=>?_,fun i y hy=>?_⟩
   ·dsimp only;split
    ·split
     ·exact k1 _ _ (by omega)
     ·exact Dj.WM _
    ·exact Dj.YM _
   ·dsimp only;split
    ·rename_i h;exact sub _ (fun i=>H (i+1)) (fun i j h=>k1 _ _ (by omega)) i h
    ·exact Sub.em _
   ·have hl:i<xs.length:=by
     rcases Nat.lt_or_ge i xs.length with h|h
     ·exact h
     ·rw[List.getElem?_eq_none h]at hy;cases hy
    dsimp only;rw[if_pos hl];exact k3 (i+1) y (by simpa using hy)
  exact⟨H 0,big (fun i=>H (i+1)) xs.length,ZbQ fun i=>k1 _ _ (by omega),k2 0,ZdM fun i=>k2 (i+1),k3 0 x rfl,Fam.sep this⟩
def sel{β:Type}:List Nat→List β→Option (List β)
 | [],_=>some []
 |i::is,l=>match l[i]?,sel is l with
  |some x,some r=>some (x::r)
  | _,_=>none
theorem Z9H{β:Type}:∀{is:List Nat} {l r:List β},sel is l=some r→∀(j:Nat) x,r[j]?=some x→∃i,is[j]?=some i∧l[i]?=some x
 | [],l,r,h,j,x,hx=>by simp[sel]at h;subst h;simp at hx
 |i::is,l,r,h,j,x,hx=>by
  simp only[sel]at h;split at h
  ·rename_i y r' h1 h2
   simp at h;subst h;cases j with
   |zero=>simp at hx;subst hx;exact⟨i,rfl,h1⟩
   |succ j=>simpa using Z9H h2 j x (by simpa using hx)
  ·cases h
def nodup:List Nat→Bool
 | []=>true
 |i::is => !(is.contains i)&&nodup is
theorem ZaL:∀{is:List Nat},nodup is=true→∀(i j:Nat) (x:Nat),is[i]?=some x→is[j]?=some x→i=j
 | [],_,i,j,x,h,_=>by simp at h
 |z::is,hn,i,j,x,h,k=>by
  simp[nodup]at hn;cases i with
  |zero=>cases j with
   |zero=>rfl
   |succ j=>simp at h k;subst h;exact absurd (List.mem_of_getElem? k) hn.1
  |succ i=>cases j with
   |zero=>simp at h k;subst k;exact absurd (List.mem_of_getElem? h) hn.1
   |succ j=>simp at h k;rw[ZaL hn.2 i j x h k]
theorem Sep.sel{is:List Nat}{l r:List HO}{a b:Hp}(hn:nodup is=true)(hs:Q.sel is l=some r)(h:Sep a l b):Sep a r b:=by
 obtain⟨H,k1,k2,k3⟩:=h.fam;refine Fam.sep ⟨fun j=>match is[j]? with|some i=>H i|none=>em,fun i j hij=>?_,fun i=>?_,fun j x hx=>?_⟩
 ·dsimp only;split
  ·rename_i u hu
   split
   ·rename_i v hv
    exact k1 _ _ fun e=>hij (ZaL hn i j u hu (e▸hv))
   ·exact Dj.WM _
  ·exact Dj.YM _
 ·dsimp only;split
  ·exact k2 _
  ·exact Sub.em _
 ·obtain⟨i,h1,h2⟩:=Z9H hs j x hx;dsimp only;rw[h1];exact k3 i x h2
section
variable{w0 w w':World}{hA hV:Hp}{ps ps':List HP}{os os':List HO}{x y:HO}
theorem St.ZeL(is:List Nat)(hn:nodup is=true)(hs:Q.sel is os=some os')(h:St w0 hA hV ps os w):St w0 hA hV ps os' w:=h.imp (fun _ a=>a) (fun _ _ _ s=>s.sel hn hs)
theorem St.V5(is:List Nat)(hs:Q.sel is ps=some ps')(h:St w0 hA hV ps os w):St w0 hA hV ps' os w:=h.imp (fun _ a x hx=>by
 obtain⟨j,hj⟩:=List.getElem?_of_mem hx;obtain⟨i,-,h2⟩:=Z9H hs j x hj;exact a x (List.mem_of_getElem? h2)) (fun _ _ _ s=>s)
theorem St.Tc(hx:∀a,x.p a em)(h:St w0 hA hV ps os w):St w0 hA hV ps (x::os) w:=h.imp (fun _ a=>a) (fun a b _ s=>⟨em,b,Dj.YM _,Sub.em _,Sub.refl _,hx a,s⟩)
theorem Zg.nil{α:Type}(k:Kd α)(T:TypeId)(a:Hp):(Zg k T (.slice none 0 0) ([]:List α)).p a em:=⟨[],rfl,by simp,.inl ⟨rfl,rfl⟩⟩
theorem Z9.nil{α:Type}(k:Kd α)(h:Hp):(Z9 k (.slice none 0 0) ([]:List α)).p h:=⟨none,0,rfl,by simp,fun _=>⟨rfl,rfl⟩,fun a e=>by cases e⟩
def HO.Yk(l:List HO):HO:=⟨fun a h=>Sep a l h,fun _ _ _ _ sa sb h=>Sep.mono l sa sb h⟩
theorem Sep.append:∀{l m:List HO} {a b c:Hp},Sep a l b→Sep a m c→Dj b c→Sep a (l++m) (un b c)
 | [],m,a,b,c,_,k,d=>Sep.mono m (Sub.refl _) (Sub.YH d) k
 |x::xs,m,a,b,c,⟨h1,h2,e,s1,s2,p,q⟩,k,d=>by
  have:=Sep.append q k (d.sub s2 (Sub.refl _));exact⟨h1,un h2 c,Dj.YH e (d.sub s1 (Sub.refl _)),s1.trans (Sub.Xe _ _),Sub.Vl (s2.trans (Sub.Xe _ _)) (Sub.YH d),p,this⟩
theorem St.Yk{l:List HO}(h:St w0 hA hV ps (HO.Yk l::os) w):St w0 hA hV ps (l++os) w:=h.imp (fun _ a=>a) (fun a b _ s=>by
 obtain⟨h1,h2,e,s1,s2,p,q⟩:=s;exact Sep.mono _ (Sub.refl _) (Sub.Vl s1 s2) (Sep.append p q e))
theorem St.toP(i:Nat){z:HP}(hi:os[i]?=some (HO.ofP z))(h:St w0 hA hV ps os w):St w0 hA hV (z::ps) (os.eraseIdx i) w:=by
 obtain⟨m,g,hN,hO,n1,n2,d,s1,s2,p,s⟩:=h;obtain⟨h1,h2,e,t1,t2,r,q⟩:=Sep.take i os hi s;refine⟨m,g,hN,hO,n1,n2,d,s1,s2,fun y hy=>?_,Sep.mono _ (Sub.refl _) t2 q⟩;rcases List.mem_cons.1 hy with rfl|hy
 ·exact r
 ·exact p y hy
end
theorem St.at{w0 w:World}{hA hV:Hp}{ps:List HP}{os:List HO}{x:HO}(i:Nat)(hi:os[i]?=some x)(see:YG w0 hA hV)(h:St w0 hA hV ps os w) :
    ∃hP h1,x.p hP h1∧Sub hP (hp w)∧Sub h1 (hp w)∧All ps hP∧∀(w':World) (y:HO) (h1':Hp),Met w w'→(∀b,b<w.heap.size→h1 b=none→w'.heap[b]?=w.heap[b]?) →
     y.p hP h1'→Sub h1' (hp w')→(∀b,h1' b≠none→h1 b≠none∨w.heap.size≤b)→St w0 hA hV ps (os.set i y) w':=by
 obtain⟨m,f,hN,hO,n1,n2,d,s1,s2,p,q⟩:=h;obtain⟨h1,h2,e,t1,t2,r,s⟩:=Sep.take i os hi q;have sub:Sub (un hV hN) (hp w):=Sub.Vl (fun b o e=>f b o (see.sub b o e) (by
  rcases see.dj b with k|k
  ·rw[e]at k;cases k
  ·exact k)) s1
 refine⟨un hV hN,h1,r,sub,t1.trans s2,p,fun w' y h1' hm hk k1 k2 k3=>?_⟩;have hkeep:∀k:Hp,Dj h1 k→Sub k (hp w)→Sub k (hp w'):=fun k hd hs b o eb=>by
  have hb:=J4 (hs b o eb);have:w'.heap[b]?=w.heap[b]?:=hk b hb ((hd b).resolve_right (by rw[eb];simp));show w'.heap[b]?=some o;rw[this];exact hs b o eb
 have dj':∀k:Hp,Dj h1 k→Sub k (hp w)→Dj h1' k:=fun k hd hs b=>by
  cases eq:h1' b with
  |none=>exact .inl rfl
  |some u=>
   refine .inr ?_;rcases k3 b (by rw[eq];simp)with z|z
   ·exact(hd b).resolve_left z
   ·cases eq2:k b with
    |none=>rfl
    |some v=>have:=J4 (hs b v eq2);omega
 have dN:Dj h1 hN:=(d.sub (Sub.refl _) t1).symm;refine⟨m.trans hm,fun b o e1 e2=>?_,hN,un h1' h2,n1,?_,Dj.YH (dj' _ dN s1).symm (d.sub (Sub.refl _) t2),hkeep _ dN s1,Sub.Vl k2 (hkeep _ e (t2.trans s2)),p,?_⟩
 ·have hb:b<w0.heap.size:=J4 e1;have:w'.heap[b]?=w.heap[b]?:=hk b (Nat.lt_of_lt_of_le hb m.size) (by
   cases eq:h1 b with
   |none=>rfl
   |some u=>have:=t1 _ _ eq;rw[n2 b hb e2]at this;cases this)
  show w'.heap[b]?=some o;rw[this];exact f b o e1 e2
 ·intro b hb hb2;have z:=n2 b hb hb2;have z1:h1 b=none:=by
   cases eq:h1 b with
   |none=>rfl
   |some u=>have:=t1 _ _ eq;rw[z]at this;cases this
  have z2:h2 b=none:=by
   cases eq:h2 b with
   |none=>rfl
   |some u=>have:=t2 _ _ eq;rw[z]at this;cases this
  have z3:h1' b=none:=by
   cases eq:h1' b with
   |none=>rfl
   |some u=>
    rcases k3 b (by rw[eq];simp)with y|y
    ·exact absurd z1 y
    ·have:=m.size;omega
  simp[un,z3,z2]
 ·exact Sep.back i os (by rcases Nat.lt_or_ge i os.length with g|g;exact g;rw[List.getElem?_eq_none g]at hi;cases hi) (dj' _ e (t2.trans s2)) k1 s
theorem Row.owns{T:TypeId}{sz:Nat}{w:World}{h:Hp}{v:Value}{n:Nat}{cells:List Value}(s:Sub h (hp w))(r:Row T sz h v n cells):w.ownsRow 0 T sz v n cells:=
 ⟨r.1,r.2.imp id fun⟨g,cap,cur,e,hg,z⟩=>⟨g,cap,cur,e,Nat.zero_le _,s _ _ hg,z⟩⟩
theorem Row.of{T:TypeId}{sz:Nat}{w:World}{v:Value}{n:Nat}{cells:List Value}(r:w.ownsRow 0 T sz v n cells) :
    ∃h,Row T sz h v n cells∧Sub h (hp w)∧∀b,h b≠none→v.ownBlock=some b:=by
 obtain⟨l,⟨rfl,hn⟩|⟨g,cap,cur,rfl,-,hg,z⟩⟩:=r
 ·exact⟨em,⟨l,.inl ⟨rfl,hn⟩⟩,Sub.em _,fun b hb=>absurd rfl hb⟩
 ·refine⟨bk g (.cells cur T (0,0)),⟨l,.inr ⟨g,cap,cur,rfl,by simp[bk],z⟩⟩,fun b o e=>?_,fun b hb=>?_⟩
  ·unfold bk at e;split at e
   ·rename_i hb;subst hb;simp at e;subst e;exact hg
   ·cases e
  ·unfold bk at hb;split at hb
   ·rename_i hb2;simp[Value.ownBlock,hb2]
   ·exact absurd rfl hb
theorem Row.block{T:TypeId}{sz:Nat}{h:Hp}{v:Value}{n:Nat}{cells:List Value}(r:Row T sz h v n cells):∀b,v.ownBlock=some b→h b≠none:=by
 obtain⟨l,⟨rfl,hn⟩|⟨g,cap,cur,rfl,hg,z⟩⟩:=r
 ·intro b hb;simp[Value.ownBlock]at hb
 ·intro b hb;simp[Value.ownBlock]at hb;subst hb;rw[hg];simp
section
variable{P:Program}{n:Fr}{ρ:Option Nat}{σ:List (Nat×Value)}{w0:World}{hA hV:Hp}{ps:List HP}{os:List HO}{L l:List Oper}{Q:Cont}{d:Nat}{t e tr:TypeId}{x y:Operand}{pos:String}{af:Array Edge}{g:Option (Nat×Bool)}{v u:Value}{α:Type}{k:Kd α}{xs ys:List α}
theorem Xb.cells{w:World}{a:Hp}(s:Sub a (hp w))(h:Xb k a u ys):∃A cap,u=.slice A ys.length cap∧(A=none→ys=[])∧∃cells,Flat k a cells ys∧∀ad,A=some ad→∀j c,cells[j]?=some c→w.cell? (ad.add j)=some c:=by
 obtain⟨A,cap,rfl,-,z,f⟩:=h;refine⟨A,cap,rfl,fun e=>(z e).1,?_⟩;cases A with
 |none=>obtain⟨rfl,-⟩:=z rfl;exact⟨[],rfl,fun ad e=>by cases e⟩
 |some ad=>
  have key:∀(zs:List α) (o:Nat),(∀i x,zs[i]?=some x→ad.spot=none∧∃cs,k.rd a cs x∧At a ad.block (ad.off+(o+i)*k.sz) cs) →
      ∃cells,Flat k a cells zs∧∀j c,cells[j]?=some c→w.cell? (ad.add (o*k.sz+j))=some c:=by
   intro zs;induction zs with
   |nil=>intro o _;exact⟨[],rfl,fun j c h=>by simp at h⟩
   |cons z zs ih=>
    intro o h;obtain⟨cells,h1,h2⟩:=ih (o+1) fun i x hx=>by have:=h (i+1) x (by simpa using hx);rwa [show o+(i+1)=o+1+i from by omega]at this
    obtain⟨sp,cs,r,q⟩:=h 0 z rfl;refine⟨cs++cells,⟨cs,cells,rfl,r,h1⟩,fun j c hj=>?_⟩;have hl:=k.len _ _ _ r;rcases Nat.lt_or_ge j cs.length with hlt|hge
    ·rw[List.getElem?_append_left hlt]at hj;have:=(q.mono s).cell hj;have e1:ad.add (o*k.sz+j)=(⟨ad.block,ad.off+(o+0)*k.sz,none⟩:Addr).add j:=by
      obtain⟨ab,ao,aq⟩:=ad;simp at sp;subst sp;simp only[Addr.add,Nat.add_zero];by_cases h0:o*k.sz+j=0
      ·have:j=0:=by omega
       have h1:o*k.sz=0:=by omega
       simp[h0,this,h1]
      ·rw[if_neg h0];by_cases hj0:j=0
       ·subst hj0;simp
       ·rw[if_neg hj0];simp[Nat.add_assoc]
     rw[e1];exact this
    ·rw[List.getElem?_append_right hge]at hj;have:=h2 (j-cs.length) c hj;have e2:(o+1)*k.sz+(j-cs.length)=o*k.sz+j:=by rw[Nat.add_mul];omega
     rwa [e2]at this
  obtain⟨cells,h1,h2⟩:=key ys 0 fun i x hx=>by simpa using f ad rfl i x hx
  refine⟨cells,h1,fun ad' e j c hj=>?_⟩;obtain rfl:ad=ad':=by simpa using e
  simpa using h2 j c hj
theorem ZdB{w:World}{a h:Hp}{bytes:Nat}(sa:Sub a (hp w))(sh:Sub h (hp w))(hu:P.underlying t=some (.slice e)){cs:List Value}(hi:(P.info? e).map (fun i=>((i.zero.map fun z=>z.cells.toList),i.size,i.bytes))=some (some cs,k.sz,bytes))(hz:cs.length=k.sz)(hk:0<k.sz)
    {cells:List Value} (hf:Flat k a cells xs) (hr:Row e k.sz h v xs.length cells) (hy:Xb k a u ys) (hb:(xs.length+ys.length)*bytes≤140737488355328) (hm:xs.length+ys.length≤maxLen) {ty:TypeId} :
    ∃v' w' h',(Builtin.append_ #[t,t] ty #[v,u]).run P w=.ok v' w'∧Met w w'∧(∀b,b<w.heap.size→some b≠v.ownBlock→w'.heap[b]?=w.heap[b]?) ∧
     (Zg k e v' (xs++ys)).p a h'∧Sub h' (hp w')∧∀b,h' b≠none→h b≠none∨w.heap.size≤b:=by
 obtain⟨i,z,i1,i2,i3,i4,i5⟩:=Z47 hi;obtain⟨A,cap,rfl,hA0,news,hf2,hc⟩:=hy.cells sa;have hown:=hr.owns sh;have fin:∀v' w',w'.ownsRow 0 e k.sz v' (xs.length+ys.length) (cells++news)→w.grownBy w' v.ownBlock→(v'.ownBlock=v.ownBlock∨v'.ownBlock=none∨∃b,v'.ownBlock=some b∧w.heap.size≤b) →
     ∃h',Met w w'∧(∀b,b<w.heap.size→some b≠v.ownBlock→w'.heap[b]?=w.heap[b]?)∧(Zg k e v' (xs++ys)).p a h'∧Sub h' (hp w')∧∀b,h' b≠none→h b≠none∨w.heap.size≤b:=fun v' w' ho hg hn=>by
  obtain⟨h',r1,r2,r3⟩:=Row.of ho;refine⟨h',⟨hg.os,hg.tape,hg.output,hg.size⟩,hg.block,⟨cells++news,hf.append hf2,by rw[List.length_append];exact r1⟩,r2,fun b hb=>?_⟩;have eb:=r3 b hb;rcases hn with z|z|⟨c,z,y⟩
  ·exact .inl (hr.block b (z▸eb))
  ·rw[z]at eb;cases eb
  ·rw[z]at eb;simp at eb;subst eb;exact .inr y
 cases A with
 |none=>
  obtain rfl:=hA0 rfl;have hn0:news=[]:=hf2;subst hn0;obtain⟨h',q1,q2,q3,q4,q5⟩:=fin v w (by simpa using hown) ⟨rfl,rfl,rfl,Nat.le_refl _,fun _ _ _=>rfl⟩ (.inl rfl);refine⟨v,w,h',?_,q1,q2,q3,q4,q5⟩;have:∃b2 n2 c2,v=.slice b2 n2 c2∧n2≤c2:=by
   rcases hr.2 with ⟨rfl,hn⟩|⟨g,cp,cur,rfl,-,hl,-⟩
   ·exact⟨_,_,_,rfl,Nat.le_refl _⟩
   ·exact⟨_,_,_,rfl,hl⟩
  obtain⟨b2,n2,c2,rfl,hle⟩:=this;cases b2<;>simp[Builtin.append_,run_underlying hu,sizeOf,typeInfo,i1,Builtin.lenOf,hle,Builtin.firstCells,storeCells]
 |some ad=>
  have hzs:z.cells.size=k.sz:=by rw[i3];simpa using hz
  have hl2:=hf2.len;have hnews:∀j c,news[j]?=some c→w.cell? (ad.add j)=some c:=fun j c hj=>hc ad rfl j c hj;have hm':xs.length+ys.length≤9223372036854775807:=by simpa only[maxLen]using hm
  have grown:∀old:Nat,old<xs.length+ys.length →
      (w.drew.alloc (.cells (cells.toArray++news.toArray++Builtin.zeroCells z.cells (grownCap w (xs.length+ys.length) old e-(xs.length+ys.length))) e)).ownsRow 0 e k.sz (.slice (some ⟨w.heap.size,0,none⟩) (xs.length+ys.length) (grownCap w (xs.length+ys.length) old e)) (xs.length+ys.length) (cells++news):=fun old ho=>by
   have hge:=grownCap_ge w (xs.length+ys.length) old e;have hcm:=grownCap_le_maxLen w (xs.length+ys.length) old e hm;have hlen:(cells++news).length=(xs.length+ys.length)*k.sz:=by rw[List.length_append,hown.1,hl2,Nat.add_mul]
   refine⟨hlen,.inr ⟨w.heap.size,_,_,rfl,Nat.zero_le _,heap_alloc_new w.drew _,hge,hcm,?_,?_⟩⟩
   ·simp only[Array.size_append,List.size_toArray,size_zeroCells,hzs,hown.1,hl2,←Nat.add_mul];congr 1;omega
   ·simp only[Array.toList_append,List.append_assoc];rw[←List.append_assoc,←hlen];exact List.take_left
  have gb:∀old:Nat,w.grownBy (w.drew.alloc (.cells (cells.toArray++news.toArray++Builtin.zeroCells z.cells (grownCap w (xs.length+ys.length) old e-(xs.length+ys.length))) e)) v.ownBlock:=fun old=>
   ⟨rfl,rfl,rfl,by simp,fun k hk _=>by
    show(w.heap.push _)[k]?=_;rw[Array.getElem?_push,if_neg (by omega)]⟩
  rcases hr.2 with ⟨rfl,hn⟩|⟨gg,cp,cur,rfl,hg,hle,hcm,hcs,htake⟩
  ·obtain rfl:=List.eq_nil_of_length_eq_zero hn;have hc0:cells=[]:=hf;subst hc0;by_cases h0:ys.length=0
   ·obtain rfl:=List.eq_nil_of_length_eq_zero h0;have hn0:news=[]:=hf2;subst hn0;obtain⟨h',q1,q2,q3,q4,q5⟩:=fin (.slice none 0 0) w (by simpa using hown) ⟨rfl,rfl,rfl,Nat.le_refl _,fun _ _ _=>rfl⟩ (.inl rfl);refine⟨_,w,h',?_,q1,q2,q3,q4,q5⟩;simp[Builtin.append_,run_underlying hu,sizeOf,typeInfo,i1,Builtin.lenOf,Builtin.firstCells,loadCells,loadCellsFrom]
   ·have hr:=run_append_nil (P:=P) w t ty e i z hu i1 i2 ad ys.length cap news (by rw[i4];exact hl2) hnews (by omega) (by simp at hm';omega) (by rw[i5];simp at hb;omega);have:=grown 0 (by simp;omega);have:=gb 0;simp only[List.length_nil,Nat.zero_add,List.nil_append]at *;obtain⟨h',q1,q2,q3,q4,q5⟩:=fin _ _ (by assumption) (by assumption) (.inr (.inr ⟨_,rfl,Nat.le_refl _⟩));simp only[Array.empty_append]at *;exact⟨_,_,h',hr,q1,q2,q3,q4,q5⟩
  ·by_cases hroom:xs.length+ys.length≤cp
   ·have hfit:xs.length*i.size+news.length≤cur.size:=by rw[hl2,hcs,i4,←Nat.add_mul];exact Nat.mul_le_mul_right _ hroom
    have hg':=sh _ _ hg;have hr2:=run_append_room (P:=P) w t ty e i hu i1 gg xs.length cp cur hg' ad ys.length cap news (by rw[i4];exact hl2) hnews (Z7j hf2.one) hroom hfit;have ho:(w.setRow gg (cur.toList.take (xs.length*i.size)++news++cur.toList.drop (xs.length*i.size+news.length)).toArray).ownsRow 0 e k.sz (.slice (some ⟨gg,0,none⟩) (xs.length+ys.length) cp) (xs.length+ys.length) (cells++news):=by
     refine⟨by rw[List.length_append,hown.1,hl2,Nat.add_mul],.inr ⟨gg,cp,_,rfl,Nat.zero_le _,setRow_heap w gg cur _ e _ hg',hroom,hcm,?_,?_⟩⟩
     ·simp only[List.size_toArray,List.length_append,List.length_take,List.length_drop,Array.length_toList];rw[i4]at hfit ⊢;omega
     ·have hl3:(cells++news).length=(xs.length+ys.length)*k.sz:=by rw[List.length_append,hown.1,hl2,Nat.add_mul]
      rw[i4,htake,←hl3];exact List.take_left
    obtain⟨h',q1,q2,q3,q4,q5⟩:=fin _ _ ho ⟨rfl,rfl,rfl,by simp,fun k _ hk=>setRow_other w gg k _ (fun e=>hk (by simp[Value.ownBlock,e]))⟩ (.inl rfl);exact⟨_,_,h',hr2,q1,q2,q3,q4,q5⟩
   ·have holds:∀j u,cells[j]?=some u→w.cell? ((⟨gg,0,none⟩:Addr).add j)=some u:=hown.cells (g:=gg) rfl;have hr2:=run_append_grow (P:=P) w t ty e i z hu i1 i2 ⟨gg,0,none⟩ xs.length cp cells (by rw[i4];exact hown.1) holds ad ys.length cap news (by rw[i4];exact hl2) hnews (by omega) (by omega) (by rw[i5];exact growslice_fits (by omega) hb);obtain⟨h',q1,q2,q3,q4,q5⟩:=fin _ _ (grown cp (by omega)) (gb cp) (.inr (.inr ⟨_,rfl,Nat.le_refl _⟩));exact⟨_,_,h',hr2,q1,q2,q3,q4,q5⟩
theorem SP.append(see:YG w0 hA hV)(i:Nat)(hi:os[i]?=some (Zg k e v xs))(j:Nat)(hj:ps[j]?=some (Z9 k u ys))(hu:P.underlying t=some (.slice e)){cs:List Value}{bytes:Nat}(hin:(P.info? e).map (fun i=>((i.zero.map fun z=>z.cells.toList),i.size,i.bytes))=some (some cs,k.sz,bytes))(hz:Nat.beq cs.length k.sz=true)(hk:Nat.blt 0 k.sz=true)
    (hb:(xs.length+ys.length)*bytes≤140737488355328) (hb0:Nat.blt 0 bytes=true) (hg:gd L σ g=some true) (hn:Nat.blt d n.n=true) (hx:ev σ x=some v) (hy:ev σ y=some u)
    (h:∀v',SP P n ρ ((d,v')::σ) (St w0 hA hV ps (os.set i (Zg k e v' (xs++ys)))) L l Q):SP P n ρ σ (St w0 hA hV ps os) L (⟨some d,.call ⟨.builtin .append,#[x,y],#[t,t]⟩,tr,pos,af,g⟩::l) Q:=by
 have hz':cs.length=k.sz:=by simpa using hz
 have hk':0<k.sz:=by simpa using hk
 have ZtH:0<bytes:=by simpa using hb0
 have hm:xs.length+ys.length≤maxLen:=by
  have:xs.length+ys.length≤(xs.length+ys.length)*bytes:=Nat.le_mul_of_pos_right _ ZtH;simp only[maxLen];omega
 refine SP.op (fun v':Value=>v') (fun v'=>St w0 hA hV ps (os.set i (Zg k e v' (xs++ys)))) hg rfl hn (fun a w ha hw=>?_) h;obtain⟨hP,h1,⟨cells,f,r⟩,sP,s1,ap,back⟩:=hw.at i hi see
 obtain⟨v',w',h',q1,q2,q3,q4,q5,q6⟩:=ZdB (P:=P) (ty:=tr) sP s1 hu hin hz' hk' f r (ap.get j hj) hb hm;refine⟨v',w',by simp[execOp,resolve,invoke,builtin,ha.eval hx,ha.eval hy,q1],back w' _ h' q2 (fun b hb hn=>q3 b hb fun e=>?_) q4 q5 q6⟩;exact r.block b e.symm hn
theorem SP.Vk{T:TypeId}(see:YG w0 hA hV)(i:Nat)(hi:os[i]?=some (Zg k T v xs))(h:SP P n ρ σ (St w0 hA hV (Z9 k v xs::ps) (os.eraseIdx i)) L l Q):SP P n ρ σ (St w0 hA hV ps os) L l Q:=fun a w ha hw=>by
 have:=hw.freeze i hi see.dj see.sub;refine h a w ha (St.imp (fun hh al x hx=>?_) (fun _ _ _ s=>s) this);rcases List.mem_cons.1 hx with rfl|hx
 ·exact Zg.read (al.get 0 rfl) (Sub.refl _) (Sub.refl _)
 ·exact al x (List.mem_cons_of_mem _ hx)
theorem SP.buildSlice{len:Nat}{parts:Array (Nat×Operand)}{us:List (Nat×Value)}{cs cells:List Value}{bytes:Nat}(hu:P.underlying t=some (.slice e))(hin:(P.info? e).map (fun i=>((i.zero.map fun z=>z.cells.toList),i.size,i.bytes))=some (some cs,k.sz,bytes))
    (hp:parts.toList.map (fun q=>q.1)=us.map (·.1)) (he:evs σ (parts.toList.map (·.2))=some (us.map (·.2))) (hsmall:Nat.ble (len*k.sz) 1000=true) (hpos:Nat.blt 0 (len*k.sz)=true)
    (hf:Instr.fill (fun i=>some (i*k.sz,k.sz)) ((Array.range (len*k.sz)).map (cs.toArray[· % cs.toArray.size]!)) us=some cells.toArray)
    (hxs:∀a,All ps a→Flat k a cells xs) (hlc:cells.length=xs.length*k.sz) (hl:xs.length=len) (hg:gd L σ g=some true) (hn:Nat.blt d n.n=true)
    (h:∀v,SP P n ρ ((d,v)::σ) (St w0 hA hV ps (Zg k e v xs::os)) L l Q):SP P n ρ σ (St w0 hA hV ps os) L (⟨some d,.buildSlice t len parts,tr,pos,af,g⟩::l) Q:=by
 refine SP.op (fun v:Value=>v) (fun v=>St w0 hA hV ps (Zg k e v xs::os)) hg rfl hn (fun a w ha hw=>?_) h;obtain⟨i,z,i1,i2,i3,i4,i5⟩:=Z47 hin;have hm:(parts.map fun q=>(q.1,a.eval q.2)).toList=us:=by
  rw[Array.toList_map];have h2:=ha.Z1i he;clear he hf;generalize parts.toList=pl at hp h2
  induction pl generalizing us with
  |nil=>cases us with
   |nil=>rfl
   |cons _ _=>simp at hp
  |cons q r ih=>cases us with
   |nil=>simp at hp
   |cons u r'=>
    simp at hp h2;obtain⟨u1,u2⟩:=u;simp at hp h2;simp[hp.1,h2.1];exact ih (by simpa using hp.2) (by simpa using h2.2)
 have hsm:len*k.sz≤1000:=by simpa using hsmall
 have hps:0<len*k.sz:=by simpa using hpos
 have hfl:=hlc;have:=run_buildSlice (P:=P) w t e len (parts.map fun q=>(q.1,a.eval q.2)) cells.toArray i z hu i1 i2 (by rw[i4];omega) (by rw[i4];omega) (by rw[i4,i3,hm];exact hf);refine⟨.slice (some ⟨w.heap.size,0,none⟩) len len,w.alloc (.cells cells.toArray e),by simp[execOp,this],hw.Z6l _ fun b hb=>⟨cells,hxs _ hb,?_⟩⟩;refine⟨hfl,.inr ⟨w.heap.size,len,cells.toArray,by rw[hl],by simp[bk],by rw[hl];exact Nat.le_refl _,?_,by simp[hfl,hl],by rw[←hfl];simp⟩⟩;have:len≤len*k.sz:=by
  rcases Nat.eq_zero_or_pos k.sz with z|z
  ·rw[z]at hps;simp at hps
  ·exact Nat.le_mul_of_pos_right _ z
 simp only[maxLen];omega
end
end Go.Q
namespace Go.Q
def PtC(v:Value)(m:Nat)(p:Value):Prop:=∃b len cap,v=.slice (some ⟨b,0,none⟩) len cap∧p=.pointer (some ⟨b,m,none⟩)
section
variable{P:Program}{n:Fr}{ρ:Option Nat}{σ:List (Nat×Value)}{w0:World}{hA hV:Hp}{ps:List HP}{os:List HO}{L l:List Oper}{Q:Cont}{d:Nat}{dd:Option Nat}{t e T tr:TypeId}{x y:Operand}{pos:String}{af:Array Edge}{g:Option (Nat×Bool)}{v u p:Value}{α:Type}{k:Kd α}{xs:List α}{x0 z0:α}{j:Int}{m off:Nat}
theorem Vp{β:Type}{l:List β}{i:Nat}{z:β}(h:l[i]?=some z):i<l.length:=by
 rcases Nat.lt_or_ge i l.length with g|g
 ·exact g
 ·rw[List.getElem?_eq_none g]at h;cases h
theorem PtC.field{s f:Nat}{fs:Array Field}{fd:Field}(hp:PtC v m p)(hu:P.underlying t=some (.struct fs))(hf:fs[f]?=some fd)(hs:(P.info? fd.type).map (·.size)=some (s+1))(hx:ev σ x=some p) :
    ∃p',PtC v (m+fd.offset) p'∧∀A:World→Prop,Val P n σ A ⟨dd,.fieldAddr t x f,tr,pos,af,g⟩ p':=by
 obtain⟨b,len,cap,rfl,rfl⟩:=hp;refine⟨.pointer (some ⟨b,m+fd.offset,none⟩),⟨b,len,cap,rfl,rfl⟩,fun A a w ha _=>?_⟩;have hadd:(⟨b,m,none⟩:Addr).add fd.offset=⟨b,m+fd.offset,none⟩:=by unfold Addr.add;split<;>simp_all
 simp[execOp,ha.eval hx,Z0t hu hf hs,hadd]
theorem SP.Z2l{s f:Nat}{fs:Array Field}{fd:Field}(hp:PtC v m p)(hu:P.underlying t=some (.struct fs))(hf:fs[f]?=some fd)(hs:(P.info? fd.type).map (·.size)=some (s+1))(hg:gd L σ g=some true)(hn:Nat.blt d n.n=true)(hx:ev σ x=some p)
    (h:∀p',PtC v (m+fd.offset) p'→SP P n ρ ((d,p')::σ) (St w0 hA hV ps os) L l Q):SP P n ρ σ (St w0 hA hV ps os) L (⟨some d,.fieldAddr t x f,tr,pos,af,g⟩::l) Q:=by
 obtain⟨p',hp',hv⟩:=hp.field hu hf hs hx (n:=n) (dd:=some d) (tr:=tr) (pos:=pos) (af:=af) (g:=g);exact SP.val (hv _) hg rfl hn (h p' hp')
theorem Zg.elem{a h:Hp}(hr:(Zg k e v xs).p a h){i:Nat}(hx0:xs[i]?=some x0):∃b cap cur cs,v=.slice (some ⟨b,0,none⟩) xs.length cap∧h b=some (.cells cur e (0,0))∧k.rd a cs x0∧∀j u,cs[j]?=some u→cur[i*k.sz+j]?=some u:=by
 obtain⟨cells,f,hl,⟨rfl,hn⟩|⟨gg,cap,cur,rfl,hg,hle,hm,hs,ht⟩⟩:=hr
 ·have:=Vp hx0;omega
 ·obtain⟨cs,r,q⟩:=f.get hx0;refine⟨gg,cap,cur,cs,rfl,hg,r,fun j u hj=>?_⟩;have h1:=q j u hj;rw[←ht]at h1;have h2:i*k.sz+j<xs.length*k.sz:=by
   have:=Vp h1;rw[List.length_take]at this;omega
  rw[List.getElem?_take_of_lt h2]at h1;simpa using h1
theorem Val.ZbR(see:YG w0 hA hV)(i:Nat)(hi:os[i]?=some (Zg k e v xs))(hx0:xs[j.toNat]?=some x0)(hp:PtC v (j.toNat*k.sz) p){C:List Value}(hk:∀a cs,k.rd a cs x0→cs=C){X5:TypeDesc}(hu:P.underlying t=some X5)(hd:(match X5 with | .struct _ | .array _ _=>true | _=>false)=true)(hs:(P.info? t).map (·.size)=some C.length)(hx:ev σ x=some p) :
    Val P n σ (St w0 hA hV ps os) ⟨dd,.load t x,tr,pos,af,g⟩ (.agg C.toArray):=fun a w ha hw=>by
 obtain⟨b,cap,cur,cs,e1,hb,r,q⟩:=Zg.elem (St.own i hi see.sub see.dj hw) hx0;obtain⟨b',len',cap',e2,rfl⟩:=hp;rw[e1]at e2;simp at e2;obtain⟨rfl,-⟩:=e2;obtain rfl:=hk _ _ r;have hb':w.heap[b]?=some (.cells cur e (0,0)):=hb;have:=Ke (P:=P) (w:=w) (a:=⟨b,j.toNat*k.sz,none⟩) (cs:=cs) hu hd hs (fun i u hj=>by
  have hadd:(⟨b,j.toNat*k.sz,none⟩:Addr).add i=⟨b,j.toNat*k.sz+i,none⟩:=by unfold Addr.add;split<;>simp_all
  rw[hadd];simp[World.cell?,hb',q i u hj])
 simp[execOp,ha.eval hx,Instr.loadAt,Instr.sureAddr,this]
theorem Z1j{cs vs:List Value}{o i:Nat}(h:o+vs.length≤cs.length):(put cs o vs)[i]?=if o≤i∧i<o+vs.length then vs[i-o]? else cs[i]?:=by
 rw[put_eq _ _ _ h];by_cases h1:i<o
 ·rw[List.append_assoc,List.getElem?_append_left (by rw[List.length_take];omega),List.getElem?_take,if_pos h1,if_neg (by omega)]
 ·by_cases h2:i<o+vs.length
  ·rw[List.append_assoc,List.getElem?_append_right (by rw[List.length_take];omega),List.getElem?_append_left (by rw[List.length_take];omega),if_pos ⟨by omega,h2⟩,List.length_take];congr 1;omega
  ·rw[List.getElem?_append_right (by rw[List.length_append,List.length_take];omega),List.getElem?_drop,if_neg (by omega),List.length_append,List.length_take];congr 1;omega
theorem Z7k{cs vs:List Value}{o:Nat}(h:o+vs.length≤cs.length):(put cs o vs).length=cs.length:=by
 rw[put_eq _ _ _ h];simp;omega
theorem Zig{cs vs:List Value}{o m:Nat}(h:o+vs.length≤m)(hm:m≤cs.length):(put cs o vs).take m=put (cs.take m) o vs:=by
 apply List.ext_getElem?;intro i;rw[List.getElem?_take,Z1j (by omega),Z1j (by rw[List.length_take];omega),List.getElem?_take];by_cases h1:i<m
 ·simp[h1]
 ·rw[if_neg h1,if_neg (by omega),if_neg h1]
theorem SP.Z2m(see:YG w0 hA hV)(i:Nat)(hi:os[i]?=some (Zg k e v xs))(hx0:xs[j.toNat]?=some x0)(hp:PtC v (j.toNat*k.sz+off) p){vs:List Value}(hv:u.cells=vs.toArray)(h1:one vs=true)(hs:(P.info? t).map (·.size)=some vs.length)(hoff:Nat.ble (off+vs.length) k.sz=true)
    (hrd:∀a cs,All ps a→k.rd a cs x0→k.rd a (put cs off vs) z0) (hg:gd L σ g=some true) (hx:ev σ x=some p) (hy:ev σ y=some u)
    (h:SP P n ρ σ (St w0 hA hV ps (os.set i (Zg k e v (xs.set j.toNat z0)))) L l Q):SP P n ρ σ (St w0 hA hV ps os) L (⟨none,.store t x y,tr,pos,af,g⟩::l) Q:=by
 refine SP.act hg rfl (fun a w ha hw=>?_) h;obtain⟨hP,hh,hr,sP,sh,ap,back⟩:=hw.at i hi see
 obtain⟨cells,f,hl,⟨rfl,hn⟩|⟨gg,cap,cur,rfl,hgg,hle,hm,hsz,ht⟩⟩:=hr
 ·have:=Vp hx0;omega
 obtain⟨b',len',cap',e2,rfl⟩:=hp;simp at e2;obtain⟨rfl,-⟩:=e2;have hlt:=Vp hx0;have hof:off+vs.length≤k.sz:=by simpa using hoff
 have hbound:j.toNat*k.sz+k.sz≤xs.length*k.sz:=by rw[←Nat.succ_mul];exact Nat.mul_le_mul_right _ hlt
 have hcap:xs.length*k.sz≤cap*k.sz:=Nat.mul_le_mul_right _ hle;have hcl:cur.toList.length=cap*k.sz:=by simpa using hsz
 have hst:=Jb (P:=P) (t:=t) (v:=u) (w:=w) (b:=gg) (off:=j.toNat*k.sz+off) (cs:=cur.toList) (vs:=vs) (T:=e) (by have z:w.heap[gg]?=some (.cells cur e (0,0)):=sh _ _ hgg;simpa using z) hs hv h1 (by omega);refine⟨w.setRow gg (put cur.toList (j.toNat*k.sz+off) vs).toArray,by simp[execOp,ha.eval hx,ha.eval hy,Instr.storeAt,Instr.sureAddr,hst],back _ _ (bk gg (.cells (put cur.toList (j.toNat*k.sz+off) vs).toArray e (0,0))) (Met.setRow _ _ _) (fun b hb hn=>setRow_other _ _ _ _ fun e=>by subst e;rw[hgg]at hn;cases hn) ?_ ?_ ?_⟩
 ·
  obtain⟨cs,r,q⟩:=f.get hx0;have hcs:=k.len _ _ _ r;have hy':=hrd _ _ ap r;have hput:put cells (j.toNat*k.sz+off) vs=put cells (j.toNat*k.sz) (put cs off vs):=by
   have hlc:cells.length=xs.length*k.sz:=hl;have hpl:(put cs off vs).length=k.sz:=by rw[Z7k (by omega),hcs]
   apply List.ext_getElem?;intro i;rw[Z1j (by omega),Z1j (by omega),hpl];by_cases h1:j.toNat*k.sz≤i∧i<j.toNat*k.sz+k.sz
   ·rw[if_pos h1,Z1j (by omega)];by_cases h2:j.toNat*k.sz+off≤i∧i<j.toNat*k.sz+off+vs.length
    ·rw[if_pos h2,if_pos (by omega)];congr 1;omega
    ·rw[if_neg h2,if_neg (by omega)];have h4:i-j.toNat*k.sz<cs.length:=by omega
     have:=q (i-j.toNat*k.sz) cs[i-j.toNat*k.sz] (by simp[h4]);rw[show j.toNat*k.sz+(i-j.toNat*k.sz)=i from by omega]at this;rw[this];simp[h4]
   ·rw[if_neg h1,if_neg (by omega)]
  refine⟨put cells (j.toNat*k.sz+off) vs,by rw[hput];exact f.set hy' hlt,?_⟩;have hlc:cells.length=xs.length*k.sz:=hl;refine⟨?_,.inr ⟨gg,cap,_,by simp,by simp[bk];rfl,by simpa using hle,hm,?_,?_⟩⟩
  ·rw[Z7k (by omega)];simpa using hlc
  ·simp[Z7k (cs:=cur.toList) (vs:=vs) (o:=j.toNat*k.sz+off) (by omega),hsz]
  ·simp only[List.length_set];rw[Zig (by omega) (by omega),ht]
 ·intro b o eb;unfold bk at eb;split at eb
  ·rename_i hb;subst hb;simp at eb;subst eb;exact setRow_heap w b _ _ e (0,0) (sh _ _ hgg)
  ·cases eb
 ·intro b hb;unfold bk at hb;split at hb
  ·rename_i hb2;subst hb2;exact .inl (by rw[hgg];simp)
  ·exact absurd rfl hb
end
theorem Xb.shape{α:Type}{k:Kd α}{h:Hp}{v:Value}{xs:List α}(r:Xb k h v xs):v.oneCell'=true:=by obtain⟨_,_,rfl,-⟩:=r;rfl
theorem Zg.shape{α:Type}{k:Kd α}{T:TypeId}{a h:Hp}{v:Value}{xs:List α}(r:(Zg k T v xs).p a h):v.oneCell'=true:=by
 obtain⟨_,_,_,⟨rfl,-⟩|⟨_,_,_,rfl,-⟩⟩:=r<;>rfl
theorem St.Vk{α:Type}{k:Kd α}{T:TypeId}{v:Value}{xs:List α}{w0 w:World}{hA hV:Hp}{ps:List HP}{os:List HO}(h:St w0 hA hV ps os w)(i:Nat)(hi:os[i]?=some (Zg k T v xs))(see:YG w0 hA hV):St w0 hA hV (Z9 k v xs::ps) (os.eraseIdx i) w:=by
 have:=h.freeze i hi see.dj see.sub;refine St.imp (fun hh al x hx=>?_) (fun _ _ _ s=>s) this;rcases List.mem_cons.1 hx with rfl|hx
 ·exact Zg.read (al.get 0 rfl) (Sub.refl _) (Sub.refl _)
 ·exact al x (List.mem_cons_of_mem _ hx)
section
variable{P:Program}{n:Fr}{ρ:Option Nat}{σ:List (Nat×Value)}{w0:World}{hA hV:Hp}{ps:List HP}{os:List HO}{L l:List Oper}{Q:Cont}{d:Nat}{tr:TypeId}{x:Operand}{pos:String}{af:Array Edge}{g:Option (Nat×Bool)}{aq:Array Operand}{ats:Array TypeId}{f:FuncId}{vals caps:List Value}
theorem SP.Z1M(see:YG w0 hA hV)(K:Value→HO)(hfn:((P.funcs[f]?).map fun fn=>fn.body.isSome && !(fn.name == "runtime.NumGoroutine"))=some true)(hg:gd L σ g=some true)(hn:Nat.blt d n.n=true)(hx:ev σ x=some (.func (.func f) #[] caps.toArray))(has:evs σ aq.toList=some vals)
    (hc:∀w,St w0 hA hV ps os w→XL P f (vals++caps).toArray em (hp w) w K) (hK:∀v a a' b,(K v).p a b→(K v).p a' b)
    (h:∀v,SP P n ρ ((d,v)::σ) (St w0 hA hV ps (K v::os)) L l Q):SP P n ρ σ (St w0 hA hV ps os) L (⟨some d,.call ⟨.value x,aq,ats⟩,tr,pos,af,g⟩::l) Q:=
 SP.Ti see K hfn hg hn hx has (fun w hP hs sub ap=>(hc w hs).mono fun e w' ⟨v,he,m,f,hN,hO,z1,z2,z3,z4,z5,z6⟩=>⟨v,he,m,f,hN,hO,z1,z2,z3,z4,z5,hK _ _ _ _ z6⟩) h
theorem SP.Z0m(see:YG w0 hA hV)(r:Value)(hfn:((P.funcs[f]?).map fun fn=>fn.body.isSome && !(fn.name == "runtime.NumGoroutine"))=some true)(hg:gd L σ g=some true)(hn:Nat.blt d n.n=true)(hx:ev σ x=some (.func (.func f) #[] caps.toArray))(has:evs σ aq.toList=some vals)
    (hc:∀w,St w0 hA hV ps os w→XL P f (vals++caps).toArray em (hp w) w fun v=>HO.pure (v=r))
    (h:SP P n ρ ((d,r)::σ) (St w0 hA hV ps os) L l Q):SP P n ρ σ (St w0 hA hV ps os) L (⟨some d,.call ⟨.value x,aq,ats⟩,tr,pos,af,g⟩::l) Q:=
 SP.Z1M see _ hfn hg hn hx has hc (fun _ _ _ _ h=>h) fun v a w ha hw=>by
  obtain⟨e,hw2⟩:=hw.pure;subst e;exact h a w ha hw2
end
section
variable{P:Program}{d:Nat}{xs ys:Array Value}{f:Field}{fs:List Field}{a b:Value}{r s:Bool}{w:World}
theorem Z88(hn:(f.name == "_")=false)(ha:(part f.type xs f.offset).run P w=.ok a w)(hb:(part f.type ys f.offset).run P w=.ok b w)(he:(Op.equalIn d f.type a b).run P w=.ok r w):(Op.eqFields d xs ys [f]).run P w=.ok r w:=by
 have hn':f.name ≠ "_" := by simpa using hn
 simp only[Op.eqFields,if_pos hn',Sem.run_bind,ha,hb,he,Result.andThen_ok];cases r<;>simp
theorem Z2U(hn:(f.name == "_")=false)(ha:(part f.type xs f.offset).run P w=.ok a w)(hb:(part f.type ys f.offset).run P w=.ok b w)(he:(Op.equalIn d f.type a b).run P w=.ok r w)(hr:(Op.eqFields d xs ys fs).run P w=.ok s w):(Op.eqFields d xs ys (f::fs)).run P w=.ok (r&&s) w:=by
 have hn':f.name ≠ "_" := by simpa using hn
 rw[Op.eqFields];simp only[if_pos hn',Sem.run_bind,ha,hb,he,Result.andThen_ok];cases r
 ·simp
 ·simpa using hr
theorem ZbS{t:TypeId}{fs:Array Field}(hu:P.underlying t=some (.struct fs))(hp:P.stoodInHeld t=false)(h:(Op.eqFields d xs ys fs.toList).run P w=.ok r w):(Op.equalIn (d+1) t (.agg xs) (.agg ys)).run P w=.ok r w:=by
 have hf:P.fieldsOf t=fs:=by simp[Program.fieldsOf,hu]
 rw[run_equalIn_struct (P:=P) w d t xs ys (by rw[hf];exact hu) hp,hf];exact h
def isA(d:TypeDesc):Bool:=match d with | .struct _ | .array _ _=>true | _=>false
theorem ZdN{t:TypeId}{X5:TypeDesc}(hu:P.underlying t=some X5):(isAgg t).run P w=.ok (isA X5) w:=by
 unfold isAgg;rw[Sem.run_bind,run_underlying hu w];cases X5<;>simp[isA]
theorem Vw{t:TypeId}{cs:Array Value}{off:Nat}{X5:TypeDesc}(hu:P.underlying t=some X5)(hd:isA X5=false)(hc:cs[off]?=some a):(part t cs off).run P w=.ok a w:=by
 simp[part,ZdN hu,hd,hc]
theorem Zga{t:TypeId}{cs c:Array Value}{off n:Nat}{X5:TypeDesc}(hu:P.underlying t=some X5)(hd:isA X5=true)(hs:(P.info? t).map (·.size)=some n)(hc:cs.extract off (off+n)=c):(part t cs off).run P w=.ok (.agg c) w:=by
 cases hq:P.info? t with
 |none=>simp[hq]at hs
 |some i=>
  simp[hq]at hs;simp[part,ZdN hu,hd,sizeOf,typeInfo,hq,hs,hc]
end
section
variable{P:Program}{n:Fr}{ρ:Option Nat}{σ:List (Nat×Value)}{A:World→Prop}{dd:Option Nat}{t ty tr:TypeId}{x y:Operand}{pos:String}{af:Array Edge}{g:Option (Nat×Bool)}{xs ys:Array Value}{b:Bool}
theorem Val.Zih(hm:P.eqGuardType P.depth t=false)(he:∀w,(Op.equalIn 10000 t (.agg xs) (.agg ys)).run P w=.ok b w)(hx:ev σ x=some (.agg xs))(hy:ev σ y=some (.agg ys)):Val P n σ A ⟨dd,.binOp .eql t x y ty,tr,pos,af,g⟩ (.bool b):=fun a w ha _=>by
 simp[execOp,ha.eval hx,ha.eval hy,run_eqGuard_agg w _ t x y xs ys hm,run_eql_struct,he]
theorem Val.Zii(hm:P.eqGuardType P.depth t=false)(he:∀w,(Op.equalIn 10000 t (.agg xs) (.agg ys)).run P w=.ok b w)(hx:ev σ x=some (.agg xs))(hy:ev σ y=some (.agg ys)):Val P n σ A ⟨dd,.binOp .neq t x y ty,tr,pos,af,g⟩ (.bool (!b)):=fun a w ha _=>by
 simp[execOp,ha.eval hx,ha.eval hy,run_eqGuard_agg w _ t x y xs ys hm,run_neq_struct,he]
end
end Go.Q
namespace Go.Q
section
variable{w0 w w':World}{hA hV:Hp}{ps:List HP}{os:List HO}{X K:HO}
theorem St.K6(sA:Sub hA (hp w))(h:All ps hV)(s:Sep hV os hA):St w hA hV ps os w:=
 ⟨Met.refl w,fun _ _ e _=>e,em,hA,fun _ _ _=>rfl,fun _ _ h=>h,Dj.YM _,Sub.em _,sA,h.mono (Sub.Xe _ _),Sep.mono _ (Sub.Xe _ _) (Sub.refl _) s⟩
end
section
variable{P:Program}{n:Fr}{ρ:Option Nat}{σ:List (Nat×Value)}{w0:World}{hA hV:Hp}{ps:List HP}{os:List HO}{L l:List Oper}{Q:Cont}{d:Nat}{tr:TypeId}{x:Operand}{pos:String}{af:Array Edge}{g:Option (Nat×Bool)}{aq:Array Operand}{ats:Array TypeId}{f:FuncId}{vals caps:List Value}{X:HO}
theorem SP.Wy(see:YG w0 hA hV)(K:Value→HO)(hfn:((P.funcs[f]?).map fun fn=>fn.body.isSome && !(fn.name == "runtime.NumGoroutine"))=some true)(hg:gd L σ g=some true)(hn:Nat.blt d n.n=true)(hx:ev σ x=some (.func (.func f) #[] caps.toArray))(has:evs σ aq.toList=some vals)
    (hc:∀w hP h1,Sub hP (hp w)→Sub h1 (hp w)→Dj hP h1→All ps hP→X.p hP h1→XL P f (vals++caps).toArray h1 hP w K)
    (h:∀v,SP P n ρ ((d,v)::σ) (St w0 hA hV ps (K v::os)) L l Q):SP P n ρ σ (St w0 hA hV ps (X::os)) L (⟨some d,.call ⟨.value x,aq,ats⟩,tr,pos,af,g⟩::l) Q:=fun a w ha hw=>by
 unfold wpListIn;rw[if_pos (ha.wanted hg)];have hm:aq.map a.eval=vals.toArray:=by rw[←Array.toArray_toList (xs:=aq.map a.eval),Array.toList_map,ha.Z1i has]
 have hr:(execOp a.eval ⟨some d,.call ⟨.value x,aq,ats⟩,tr,pos,af,g⟩).run P w=.ok (.enter f (vals++caps).toArray) w:=by
  simp[execOp,resolve,ha.eval hx,Deferred.ofValue,invoke,hm,Z04 hfn (b:=default) (fv:=undef)]
 refine⟨fun _ _=>trivial,?_⟩;rw[TP hr (fun d e=>by cases e),Oper.uponIn_enter];refine⟨fun h=>(by cases h),Z5f ?_⟩;obtain⟨m,fr,hN,hO,n1,n2,dj,s1,s2,p,h1,h2,d12,t1,t2,r,q⟩:=id hw;have sub:Sub (un hV hN) (hp w):=Sub.Vl (fun b o e=>fr b o (see.sub b o e) (by
  rcases see.dj b with k|k
  ·rw[e]at k;cases k
  ·exact k)) s1
 have dV:Dj hV h1:=fun b=>by
  cases e:hV b with
  |none=>exact .inl rfl
  |some o=>
   refine .inr ?_;cases e2:h1 b with
   |none=>rfl
   |some u=>have:=t1 _ _ e2;rw[n2 b (J4 (see.sub _ _ e)) ((see.dj b).resolve_left (by rw[e];simp))]at this;cases this
 refine(hc w (un hV hN) h1 sub (t1.trans s2) (Dj.Xe dV (dj.sub (Sub.refl _) t1)) p r).mono fun e w' he=>?_;obtain⟨v,rfl,hs⟩:=he;refine h v _ _ (ha.put v (by simpa using hn)) ?_;obtain⟨m',fr',hN',hO',n1',n2',dj',s1',s2',k⟩:=hs;have old:∀b,b<w0.heap.size→hA b=none→h1 b=none:=fun b hb ha=>by
  cases e:h1 b with
  |none=>rfl
  |some o=>have:=t1 _ _ e;rw[n2 b hb ha]at this;cases this
 have Zij:∀b,b<w0.heap.size→hA b=none→h2 b=none:=fun b hb ha=>by
  cases e:h2 b with
  |none=>rfl
  |some o=>have:=t2 _ _ e;rw[n2 b hb ha]at this;cases this
 have dN:Dj hN h1:=dj.sub (Sub.refl _) t1;have keep:∀z:Hp,Sub z (hp w)→Dj z h1→Sub z (hp w'):=fun z hz dz b o e=>fr' b o (hz b o e) ((dz b).resolve_left (by rw[e];simp));have djn:∀z y:Hp,Sub z (hp w)→Dj z h1→(∀b,b<w.heap.size→h1 b=none→y b=none)→Dj z y:=fun z y hz dz hy b=>by
  cases e:z b with
  |none=>exact .inl rfl
  |some o=>exact .inr (hy b (J4 (hz _ _ e)) ((dz b).resolve_left (by rw[e];simp)))
 refine⟨m.trans m',fun b o e1 e2=>fr' b o (fr b o e1 e2) (old b (J4 e1) e2),un hN hN',un hO' h2,fun b hb h3=>by simp[un,n1 b hb h3,n1' b (Nat.lt_of_lt_of_le hb m.size) (old b hb h3)],fun b hb h3=>by simp[un,n2' b (Nat.lt_of_lt_of_le hb m.size) (old b hb h3),Zij b hb h3],?_,Sub.Vl (keep _ s1 dN) s1',Sub.Vl s2' (keep _ (t2.trans s2) d12.symm),?_,?_⟩
 ·exact Dj.Xe (Dj.YH (djn _ _ s1 dN n2') (dj.sub (Sub.refl _) t2)) (Dj.YH dj' (djn _ _ (t2.trans s2) d12.symm n1').symm)
 ·rw[←Z2T];exact p.mono (Sub.Xe _ _)
 ·have d2:Dj hO' h2:=(djn _ _ (t2.trans s2) d12.symm n2').symm;rw[←Z2T];exact⟨hO',h2,d2,Sub.Xe _ _,Sub.YH d2,k,Sep.mono os (Sub.Xe _ _) (Sub.refl _) q⟩
end
section
variable{P:Program}{ρ:Option Nat}{ops:Array Oper}{Q:Cont}{S:World→Prop}{T:Nat→Bool}
def Z0u(ops:Array Oper):Bool:=ops.all fun o=>match o.op with | .defer _=>false | _=>true
theorem ZbU(h:Z0u ops=true){j:Nat}{o:Oper}(ho:ops[j]?=some o)(c:Call):o.op≠.defer c:=by
 intro heq;have:=Array.all_eq_true_iff_forall_mem.1 h o (Array.mem_of_getElem? ho);simp[heq]at this
theorem Z7N{i:Nat}{o:Oper}{v:Value}{a:Act}(hi:ops[i]?=some o)(hy:YieldsIf P ops S o v a)
    {K:Act→World→Prop} {w:World} (hS:S w) (h:K (a.put o.dst v) w):wpOpIn (FF ρ) 0 P ops Q i K a w:=by
 unfold wpOpIn;simp only[hi];rcases hy with ⟨hw,hv⟩|⟨hw,rfl⟩
 ·simp only[hw,if_true];refine⟨fun _ _=>trivial,?_⟩;rw[TP (hv w hS) (fun d e=>by cases e),Oper.uponIn_value];exact h
 ·simp only[hw,Bool.false_eq_true,if_false];exact⟨fun _ _=>trivial,h⟩
theorem Zik{j:Nat}{oi oj:Oper}{v:Value}(hd:∀c,oj.op≠.defer c)(hj:ops[j]?=some oj)(hap:oi.apart ops oj=true)
    (hsi:∀cs b,oi.op≠.select cs b) (hsj:∀cs b,oj.op≠.select cs b)
    (hQ:∀c a w,Q (.panic c) (a.put oi.dst v) w→Q (.panic c) a w) {K:Act→World→Prop} {a:Act} {w:World}
    (hy:YieldsIf P ops S oi v a) (h:wpOpIn (FF ρ) 0 P ops Q j K (a.put oi.dst v) w) :
    wpOpIn (FF ρ) 0 P ops Q j (fun a' w'=>YieldsIf P ops S oi v a'∧K (a'.put oi.dst v) w') a w:=by
 obtain⟨h1,h2,h3⟩:=Oper.apart_spec hap;have keep:∀(a:Act),YieldsIf P ops S oi v a→∀u,YieldsIf P ops S oi v (a.put oj.dst u):=fun a hy u=>
  hy.of_same (execOp_put oi hsi a oj.dst u h3) (wanted_put oi a oj.dst u h3)
 have keepD:∀d,YieldsIf P ops S oi v { a with defers:=d::a.defers }:=fun d=>hy.of_same rfl rfl;unfold wpOpIn at *;simp only[hj]at *;rw[wanted_put oj a oi.dst v h1]at h;split
 ·rename_i hw
  simp only[hw,if_true]at h;unfold Oper.wpIn at *;refine⟨fun _ _=>trivial,?_⟩;have h:=h.2;rw[Oper.semAt_eq _ _ _ hd,execOp_put oj hsj a oi.dst v h1]at h;rw[Oper.semAt_eq _ _ _ hd];generalize (execOp a.eval oj).run P w=r at *
  cases r with
  |ok x w'=>
   cases x<;>simp only[Oper.uponIn]at h ⊢
   case value u=>exact⟨keep a hy u,by rw[←Act.put_comm a v u h2];exact h⟩
   case skip=>exact⟨keep a hy _,by rw[←Act.put_comm a v undef h2];exact h⟩
   case defer d=>
    refine⟨keep _ (keepD d) _,?_⟩;rw[←Act.put_comm _ v undef h2,←Act.put_defers];exact h
   case enter f args=>
    refine⟨h.1,CallsIn.mono h.2 fun e w'' he=>?_⟩;cases e with
    |returned u=>exact⟨keep a hy u,by rw[←Act.put_comm a v u h2];exact he⟩
    |panicked c=>exact hQ _ _ _ he
    |outgrown=>exact he
   case row row args=>exact⟨h.1,RowsIn.mono h.2 fun u w'' he=>⟨keep a hy u,by rw[←Act.put_comm a v u h2];exact he⟩⟩
   case round l f tmps assign body=>
    refine⟨h.1,RoundIn.mono h.2 fun e w'' he=>?_⟩;cases e with
    |returned u=>exact⟨keep a hy u,by rw[←Act.put_comm a v u h2];exact he⟩
    |panicked c=>exact hQ _ _ _ he
    |outgrown=>exact he
  |halt x w'=>
   cases x<;>simp only[Oper.uponIn]at h ⊢
   case panic u=>exact hQ _ _ _ h
 ·rename_i hw
  simp only[hw]at h;exact⟨fun _ _=>trivial,keep a hy _,by rw[←Act.put_comm a v undef h2];exact h.2⟩
def wpT(P:Program)(ρ:Option Nat)(ops:Array Oper)(Q:Cont)(T:Nat→Bool)(S:World→Prop):Nat→Array Bool→Act→World→Prop
 | 0,listed,a,w=>Region.ready .any ops listed=[]∧Q .normal a w
 |fuel+1,listed,a,w=>(Region.ready .any ops listed=[]→Q .normal a w) ∧
  ∀i∈Region.ready .any ops listed,wpOpIn (FF ρ) 0 P ops Q i (fun a' w'=>(T i=true→S w')∧(bif T i then wpT P ρ ops Q T S fuel (listed.setIfInBounds i true) a' w' else wpAnyIn (FF ρ) 0 P .any ops Q fuel (listed.setIfInBounds i true) a' w')) a w
theorem Z8H:∀(fuel:Nat) (listed:Array Bool) (a:Act) (w:World),wpT P ρ ops Q T S fuel listed a w→wpAnyIn (FF ρ) 0 P .any ops Q fuel listed a w
 | 0,_,_,_,h=>h
 |fuel+1,listed,_,_,h=>⟨h.1,fun i hi=>wpOpIn_mono (fun a' w' h'=>by
     cases hT:T i with
     |true=>have:=h'.2;rw[hT]at this;exact Z8H fuel _ a' w' this
     |false=>have:=h'.2;rw[hT]at this;exact this) (h.2 i hi)⟩
theorem ZeM:∀(fuel:Nat) (listed:Array Bool) (a:Act) (w:World),((Region.ready .any ops listed).all fun i => !T i)=true→wpAnyIn (FF ρ) 0 P .any ops Q fuel listed a w→wpT P ρ ops Q T S fuel listed a w
 | 0,_,_,_,_,h=>h
 |fuel+1,listed,_,_,hT,h=>⟨h.1,fun i hi=>wpOpIn_mono (fun a' w' h'=>by
     have:T i=false:=by have:=List.all_eq_true.1 hT i hi;simpa using this
     rw[this];exact⟨fun e=>(by cases e),h'⟩) (h.2 i hi)⟩
theorem Z6o{i:Nat}{oi:Oper}{v:Value}{D:Nat→Prop}(hnd:Z0u ops=true)(hi:ops[i]?=some oi)(hsel:∀(j:Nat) (o:Oper) cs b,ops[j]?=some o→o.op≠.select cs b)(hTi:T i=true)
    (hQ:∀c a w,Q (.panic c) (a.put oi.dst v) w→Q (.panic c) a w) (hD:∀j,D j→∃oj,ops[j]?=some oj∧∃e∈oj.after,Region.binds .any e=true∧(e.on=i∨D e.on)) :
    ∀(fuel:Nat) (listed:Array Bool) (a:Act) (w:World),
     (∀j,D j→listed.getD j true=false) →
     (∀j oj,ops[j]?=some oj→j≠i→listed.getD j true=false→¬D j→oi.apart ops oj=true∧T j=true) →
     i∈Region.ready .any ops listed→YieldsIf P ops S oi v a→S w →
     wpT P ρ ops Q T S fuel (listed.setIfInBounds i true) (a.put oi.dst v) w→wpT P ρ ops Q T S (fuel+1) listed a w
 | 0,listed,a,w,_,_,hr,hy,hS,H=>⟨fun h=>(by rw[h]at hr;cases hr),fun j hj=>by
     by_cases hji:j=i
     ·subst hji;rw[hTi];exact Z7N hi hy hS ⟨fun _=>hS,H⟩
     ·have:=ready_mono hj hji;rw[H.1]at this;cases this⟩
 |fuel+1,listed,a,w,ZlC,hfree,hr,hy,hS,H=>⟨fun h=>(by rw[h]at hr;cases hr),fun j hj=>by
     by_cases hji:j=i
     ·subst hji;rw[hTi];exact Z7N hi hy hS ⟨fun _=>hS,H⟩
     have h1:=H.2 j (ready_mono hj hji);obtain⟨hjun,oj,hoj,hall⟩:=mem_ready.1 hj;have hnot:¬D j:=fun hDj=>by
      obtain⟨oj',ZtI,e,he,hb,heq⟩:=hD j hDj;obtain rfl:oj'=oj:=sI (ZtI.symm.trans hoj);have h1:=hall e he hb;have h0:listed.getD e.on true=false:=by
       rcases heq with heq|heq
       ·rw[heq];exact(mem_ready.1 hr).1
       ·exact ZlC _ heq
      rcases Nat.lt_or_ge e.on listed.size with h'|h'
      ·simp[h']at h0 h1;rw[h0]at h1;cases h1
      ·simp[Array.getElem?_eq_none h']at h1
     obtain⟨hap,hTj⟩:=hfree j oj hoj hji hjun hnot;rw[hTj]at h1 ⊢;have h2:=Zik (ZbU hnd hoj) hoj hap (fun cs b=>hsel i oi cs b hi) (fun cs b=>hsel j oj cs b hoj) hQ hy h1;have keep:∀k,k≠j→(listed.setIfInBounds j true).getD k true=listed.getD k true:=fun k hk=>getD_set_ne true (Ne.symm hk);refine wpOpIn_mono (fun a' w' h3=>⟨fun _=>h3.2.1 rfl,Z6o hnd hi hsel hTi hQ hD fuel (listed.setIfInBounds j true) a' w' (fun k hk=>?_) (fun k ok hk hki hun hno=>?_) (ready_mono hr (Ne.symm hji)) h3.1 (h3.2.1 rfl) ?_⟩) h2
     ·rw[keep k (fun e=>hnot (e▸hk))];exact ZlC k hk
     ·refine hfree k ok hk hki ?_ hno;by_cases hjk:j=k
      ·subst hjk;exact hjun
      ·rw[getD_set_ne true hjk]at hun;exact hun
     ·rw[Array.setIfInBounds_comm _ _ hji];exact h3.2.2⟩
def Z7l(ops:Array Oper)(listed:Array Bool)(i:Nat):List Nat:=
 (List.range ops.size).foldl (fun acc j=>match ops[j]? with
  |some oj=>bif !listed.getD j true&&oj.after.any (fun e=>Region.binds .any e&&(e.on==i||acc.contains e.on))then j::acc else acc
  |none=>acc) []
theorem Z2n{listed:Array Bool}{i:Nat}:∀j∈Z7l ops listed i,listed.getD j true=false∧∃oj,ops[j]?=some oj∧∃e∈oj.after,Region.binds .any e=true∧(e.on=i∨e.on∈Z7l ops listed i):=by
 suffices H:∀(l acc:List Nat),(∀j∈acc,listed.getD j true=false∧∃oj,ops[j]?=some oj∧∃e∈oj.after,Region.binds .any e=true∧(e.on=i∨e.on∈acc)) →
     ∀j∈l.foldl (fun acc j=>match ops[j]? with
      |some oj=>bif !listed.getD j true&&oj.after.any (fun e=>Region.binds .any e&&(e.on==i||acc.contains e.on))then j::acc else acc
      |none=>acc) acc,listed.getD j true=false∧∃oj,ops[j]?=some oj∧∃e∈oj.after,Region.binds .any e=true∧(e.on=i∨e.on∈l.foldl (fun acc j=>match ops[j]? with
      |some oj=>bif !listed.getD j true&&oj.after.any (fun e=>Region.binds .any e&&(e.on==i||acc.contains e.on))then j::acc else acc
      |none=>acc) acc) by
  exact H _ _ (fun j hj=>by cases hj)
 intro l;induction l with
 |nil=>exact fun acc h=>h
 |cons k r ih=>
  intro acc h;rw[List.foldl_cons];refine ih _ ?_;cases hk:ops[k]? with
  |none=>exact h
  |some ok=>
   dsimp only;cases hc : !listed.getD k true&&ok.after.any (fun e=>Region.binds .any e&&(e.on==i||acc.contains e.on))with
   |false=>exact h
   |true=>
    intro j hj;have hc':=Bool.and_eq_true_iff.1 hc;rcases List.mem_cons.1 hj with rfl|hj
    ·obtain⟨e,he,hb⟩:=Array.any_eq_true'.1 hc'.2;have hb':=Bool.and_eq_true_iff.1 hb;refine⟨by simpa using hc'.1,ok,hk,e,he,hb'.1,?_⟩;rcases Bool.or_eq_true_iff.1 hb'.2 with h1|h1
     ·exact .inl (by simpa using h1)
     ·exact .inr (List.mem_cons_of_mem _ (by simpa using h1))
    ·obtain⟨h1,oj,h2,e,he,hb,h3⟩:=h j hj;exact⟨h1,oj,h2,e,he,hb,h3.imp id (fun h=>List.mem_cons_of_mem _ h)⟩
def Z3c(T:Nat→Bool)(ops:Array Oper)(listed:Array Bool)(i:Nat):Bool:=
 match ops[i]? with
 |none=>false
 |some oi=>T i&&(List.range ops.size).all fun j=>j==i||listed.getD j true||match ops[j]? with
     |some oj=>(Z7l ops listed i).contains j||(oi.apart ops oj&&T j)
     |none=>true
theorem Z8I{i:Nat}{oi:Oper}{listed:Array Bool}(hi:ops[i]?=some oi)(h:Z3c T ops listed i=true):T i=true∧∀(j:Nat) (oj:Oper),
    ops[j]?=some oj→j≠i→listed.getD j true=false→¬j∈Z7l ops listed i→oi.apart ops oj=true∧T j=true:=by
 simp only[Z3c,hi,Bool.and_eq_true,List.all_eq_true,List.mem_range]at h;refine⟨h.1,fun j oj hj hne hun hno=>?_⟩;have h1:=h.2 j (Array.getElem?_eq_some_iff.1 hj).1;simp only[hj,Bool.or_eq_true,beq_iff_eq,hne,false_or,hun,Bool.false_eq_true,Bool.and_eq_true,List.contains_iff_mem]at h1;rcases h1 with h1|h1
 ·exact absurd h1 hno
 ·exact h1
end
section
variable{P:Program}{n:Fr}{ρ:Option Nat}{σ:List (Nat×Value)}{A A':World→Prop}{L:List Oper}{Q:Cont}{S:World→Prop}{T:Nat→Bool}{fuel:Nat}{listed:Array Bool}{o oi:Oper}{d:Nat}{v:Value}
def DA(P:Program)(n:Fr)(ρ:Option Nat)(σ:List (Nat×Value))(A:World→Prop)(L:List Oper)(Q:Cont)(fuel:Nat)(listed:Array Bool):Prop:=
 ∀a w,Env n σ a→A w→wpAnyIn (FF ρ) 0 P .any L.toArray Q fuel listed a w
def DT(P:Program)(n:Fr)(ρ:Option Nat)(σ:List (Nat×Value))(A:World→Prop)(L:List Oper)(Q:Cont)(T:Nat→Bool)(S:World→Prop)(fuel:Nat)(listed:Array Bool):Prop:=
 ∀a w,Env n σ a→A w→wpT P ρ L.toArray Q T S fuel listed a w
theorem CP.Zp2{id:Nat}(hm:P.follows .mixedOrders=true)(hA:∀w k,A w→A { w with drawn:=k })(h:DA P n ρ σ A L Q L.toArray.size (Array.replicate L.toArray.size false)):CP P n ρ σ A (.region id L.toArray true) Q:=
 fun a w ha hw=>wpIn_region_any hm (h a _ ha (hA _ _ hw))
theorem DA.done(hr:(Region.ready .any L.toArray listed).isEmpty=true)(h:QE n σ A Q .normal):DA P n ρ σ A L Q fuel listed:=fun a w ha hw=>
 wpAnyIn_done (by simpa using hr) (h a w ha hw) fuel
theorem DA.imp(hx:∀w,A w→A' w)(h:DA P n ρ σ A' L Q fuel listed):DA P n ρ σ A L Q fuel listed:=fun a w ha hw=>h a w ha (hx w hw)
theorem DA.phase(T:Nat→Bool)(S:World→Prop)(h:DT P n ρ σ A L Q T S fuel listed):DA P n ρ σ A L Q fuel listed:=fun a w ha hw=>Z8H _ _ _ _ (h a w ha hw)
theorem DT.next(hT:((Region.ready .any L.toArray listed).all fun i => !T i)=true)(h:DA P n ρ σ A L Q fuel listed):DT P n ρ σ A L Q T S fuel listed:=fun a w ha hw=>ZeM _ _ _ _ hT (h a w ha hw)
theorem DT.take(i:Nat)(hi:nth L i=some oi)(hd:oi.dst=some d)(hn:Nat.blt d n.n=true)(hg:gd L σ oi.guard=some true)
    (hf:(Region.noSelect L.toArray&&Z0u L.toArray&&Z3c T L.toArray listed i&&(Region.ready .any L.toArray listed).contains i)=true)
    (hQ:∀c a w,Q (.panic c) (a.put oi.dst v) w→Q (.panic c) a w) (hv:Val P n σ S oi v) (hS:∀w,A w→S w)
    (h:DT P n ρ ((d,v)::σ) A L Q T S fuel (listed.setIfInBounds i true)):DT P n ρ σ A L Q T S (fuel+1) listed:=fun a w ha hw=>by
 simp only[Bool.and_eq_true]at hf;have hi':L.toArray[i]?=some oi:=by rw[Z4e]at hi;simpa using hi
 obtain⟨hT,hfr⟩:=Z8I hi' hf.1.2;refine Z6o (v:=v) hf.1.1.2 hi' (Region.noSelect_spec hf.1.1.1) hT hQ (fun j hj=>(Z2n j hj).2) fuel listed a w (fun j hj=>(Z2n j hj).1) hfr (by simpa using hf.2) (.inl ⟨ha.wanted hg,fun w hw=>hv a w ha hw⟩) (hS w hw) ?_;rw[hd];exact h _ _ (ha.put v (by simpa using hn)) hw
theorem DT.not(i:Nat)(hi:nth L i=some oi)(hd:oi.dst=some d)(hn:Nat.blt d n.n=true)(hg:gd L σ oi.guard=some false)
    (hf:(Region.noSelect L.toArray&&Z0u L.toArray&&Z3c T L.toArray listed i&&(Region.ready .any L.toArray listed).contains i)=true)
    (hQ:∀c a w,Q (.panic c) (a.put oi.dst undef) w→Q (.panic c) a w) (hS:∀w,A w→S w)
    (h:DT P n ρ ((d,undef)::σ) A L Q T S fuel (listed.setIfInBounds i true)):DT P n ρ σ A L Q T S (fuel+1) listed:=fun a w ha hw=>by
 simp only[Bool.and_eq_true]at hf;have hi':L.toArray[i]?=some oi:=by rw[Z4e]at hi;simpa using hi
 obtain⟨hT,hfr⟩:=Z8I hi' hf.1.2;refine Z6o (v:=undef) hf.1.1.2 hi' (Region.noSelect_spec hf.1.1.1) hT hQ (fun j hj=>(Z2n j hj).2) fuel listed a w (fun j hj=>(Z2n j hj).1) hfr (by simpa using hf.2) (.inr ⟨ha.wanted hg,rfl⟩) (hS w hw) ?_;rw[hd];exact h _ _ (ha.put _ (by simpa using hn)) hw
theorem DT.is{d:Nat}{c b:Bool}(hd:find d σ=some (.bool c))(hc:c=b)(h:DT P n ρ ((d,.bool b)::σ) A L Q T S fuel listed):DT P n ρ σ A L Q T S fuel listed:=fun a w ha hw=>
 h a w ⟨ha.1,ha.2.1,fun t v hv=>by
  simp only[find]at hv;by_cases e:d=t
  ·subst e;simp at hv;subst hv;exact ha.2.2 d _ (hc▸hd)
  ·rw[Z46 e]at hv;exact ha.2.2 t v hv⟩ hw
theorem DA.is{d:Nat}{c b:Bool}(hd:find d σ=some (.bool c))(hc:c=b)(h:DA P n ρ ((d,.bool b)::σ) A L Q fuel listed):DA P n ρ σ A L Q fuel listed:=fun a w ha hw=>
 h a w ⟨ha.1,ha.2.1,fun t v hv=>by
  simp only[find]at hv;by_cases e:d=t
  ·subst e;simp at hv;subst hv;exact ha.2.2 d _ (hc▸hd)
  ·rw[Z46 e]at hv;exact ha.2.2 t v hv⟩ hw
def atA(P:Program)(ρ:Option Nat)(L:List Oper)(Q:Cont)(fuel:Nat)(listed:Array Bool):Cont:=fun e a w=>match e with
 | .normal=>wpAnyIn (FF ρ) 0 P .any L.toArray Q fuel listed a w
 |e=>Q e a w
def Vq(P:Program)(ρ:Option Nat)(L:List Oper)(Q:Cont)(T:Nat→Bool)(S:World→Prop)(fuel:Nat)(listed:Array Bool):Cont:=fun e a w=>match e with
 | .normal=>S w∧wpT P ρ L.toArray Q T S fuel listed a w
 |e=>Q e a w
theorem DA.one(i:Nat)(hi:nth L i=some oi)(hr:(Region.ready .any L.toArray listed == [i])=true)(h:SP P n ρ σ A L [oi] (atA P ρ L Q fuel (listed.setIfInBounds i true))):DA P n ρ σ A L Q (fuel+1) listed:=fun a w ha hw=>by
 refine wpAnyIn_all (rs:=[i]) (by simpa using hr) (by simp) fun j hj=>?_;obtain rfl:j=i:=by simpa using hj
 have key:=h a w ha hw;have hi':L.toArray[j]?=some oi:=by rw[Z4e]at hi;simpa using hi
 unfold wpListIn at key;unfold wpOpIn;rw[hi'];exact key
theorem DT.one(i:Nat)(hi:nth L i=some oi)(hr:(Region.ready .any L.toArray listed == [i])=true)(hT:T i=true)(h:SP P n ρ σ A L [oi] (Vq P ρ L Q T S fuel (listed.setIfInBounds i true))):DT P n ρ σ A L Q T S (fuel+1) listed:=fun a w ha hw=>by
 have hr':Region.ready .any L.toArray listed=[i]:=by simpa using hr
 refine⟨fun h0=>absurd (hr'▸h0) (by simp),fun j hj=>?_⟩;rw[hr']at hj;obtain rfl:j=i:=by simpa using hj
 have key:=h a w ha hw;have hi':L.toArray[j]?=some oi:=by rw[Z4e]at hi;simpa using hi
 rw[hT];unfold wpListIn at key;unfold wpOpIn;rw[hi'];dsimp only at key ⊢;split at key
 ·rename_i hw'
  rw[if_pos hw'];have:=Oper.wpIn_mono (K':=fun a' w'=>(true=true→S w')∧wpT P ρ L.toArray Q T S fuel (listed.setIfInBounds j true) a' w') (fun a' w' h=>by
      have h':S w'∧wpT P ρ L.toArray Q T S fuel (listed.setIfInBounds j true) a' w':=h;exact⟨fun _=>h'.1,h'.2⟩) key
  exact this
 ·rename_i hw'
  rw[if_neg hw'];have k2:S w∧wpT P ρ L.toArray Q T S fuel (listed.setIfInBounds j true) (a.put oi.dst undef) w:=key.2;exact⟨fun _ _=>trivial,fun _=>k2.1,k2.2⟩
theorem QE.atA(h:DA P n ρ σ A L Q fuel listed):QE n σ A (atA P ρ L Q fuel listed) .normal:=h
theorem QE.Vq(hS:∀w,A w→S w)(h:DT P n ρ σ A L Q T S fuel listed):QE n σ A (Vq P ρ L Q T S fuel listed) .normal:=fun a w ha hw=>⟨hS w hw,h a w ha hw⟩
end
end Go.Q
namespace Go.Q
section
variable{w0 w:World}{hA hV:Hp}{ps:List HP}{os:List HO}{α β:Type}{k:Kd α}{xs:List α}{v p:Value}{P:Program}
theorem St.elem(hw:St w0 hA hV ps os w)(see:YG w0 hA hV)(i:Nat)(hi:ps[i]?=some (Z9 k v xs)){j:Int}{x0:α}(h0:0≤j)(hj:xs[j.toNat]?=some x0):∃p,ZeK v k.sz j p∧St w0 hA hV (U8 k p x0::ps) os w:=by
 have hlt:j<xs.length:=by
  rcases Nat.lt_or_ge j.toNat xs.length with h|h
  ·omega
  ·rw[List.getElem?_eq_none h]at hj;cases hj
 obtain⟨A,cap,rfl,l1,z,f⟩:=St.Ur i hi see.sub see.dj hw;cases A with
 |none=>rw[(z rfl).1]at hj;simp at hj
 |some ad=>
  obtain⟨hsp,-⟩:=f ad rfl _ _ hj;obtain⟨ab,ao,aq⟩:=ad;simp at hsp;subst hsp;refine⟨.pointer (some ⟨ab,ao+j.toNat*k.sz,none⟩),⟨ab,ao,_,_,rfl,h0,hlt,rfl⟩,hw.know fun hh ap=>?_⟩;obtain⟨A',cap',e',-,-,f'⟩:=ap _ (List.mem_of_getElem? hi);simp at e';obtain⟨rfl,-⟩:=e';obtain⟨-,cs,r,q⟩:=f' _ rfl _ _ hj;exact⟨ab,_,cs,rfl,r,q⟩
theorem St.Z1W{ι:Type}(hw:St w0 hA hV ps os w)(see:YG w0 hA hV)(i:Nat){x0:α}(hi:ps[i]?=some (U8 k p x0))(C:ι→List Value)(F:ι→List HP)(hk:∀h cs,k.rd h cs x0→∃z,cs=C z∧All (F z) h):∃z,True∧St w0 hA hV (atP p (C z)::F z++ps) os w:=by
 obtain⟨m,fr,hN,hO,n1,n2,dj,s1,s2,ap,s⟩:=hw;obtain⟨b,o,cs,rfl,r,q⟩:=ap _ (List.mem_of_getElem? hi);obtain⟨z,rfl,f⟩:=hk _ _ r;refine⟨z,trivial,m,fr,hN,hO,n1,n2,dj,s1,s2,fun y hy=>?_,s⟩;simp only[List.cons_append,List.mem_cons,List.mem_append]at hy;rcases hy with rfl|hy|hy
 ·exact⟨b,o,rfl,q⟩
 ·exact f y hy
 ·exact ap y hy
def Zil(v:Value)(off:Nat)(p:Value):Prop:=∃b o,v=.pointer (some ⟨b,o,none⟩)∧p=.pointer (some ⟨b,o+off,none⟩)
theorem St.Jv(hw:St w0 hA hV ps os w)(see:YG w0 hA hV)(i:Nat){x0:α}(hi:ps[i]?=some (U8 k v x0)){kf:Kd β}{f:α→β}{off:Nat}(hpart:Part k off kf f):∃p,Zil v off p∧St w0 hA hV (U8 kf p (f x0)::ps) os w:=by
 obtain⟨b,o,cs,rfl,r,q⟩:=St.Ur i hi see.sub see.dj hw;refine⟨_,⟨b,o,rfl,rfl⟩,hw.know fun hh ap=>?_⟩;obtain⟨b',o',cs',e',r',q'⟩:=ap _ (List.mem_of_getElem? hi);simp at e';obtain⟨rfl,rfl⟩:=e';obtain⟨c2,r2,h2⟩:=hpart _ _ _ r';obtain⟨c,T,fr,hb,hq⟩:=q';exact⟨b,o+off,c2,rfl,r2,c,T,fr,hb,fun j u hj=>by rw[Nat.add_assoc];exact hq _ _ (h2 j u hj)⟩
end
section
variable{P:Program}{n:Fr}{ρ:Option Nat}{σ:List (Nat×Value)}{A A':World→Prop}{L l:List Oper}{Q:Cont}{c:Code}{fuel:Nat}{listed:Array Bool}{T:Nat→Bool}{S:World→Prop}{dd:Option Nat}{t ty tr:TypeId}{x y:Operand}{pos:String}{af:Array Edge}{g:Option (Nat×Bool)}{v u p:Value}
theorem DA.ghost{ι:Type}{q:ι→Prop}{I:ι→World→Prop}(hx:∀w,A w→∃z,q z∧I z w)(h:∀z,q z→DA P n ρ σ (I z) L Q fuel listed):DA P n ρ σ A L Q fuel listed:=fun a w ha hw=>by
 obtain⟨z,hq,k⟩:=hx w hw;exact h z hq a w ha k
theorem Val.Jv{s fi off:Nat}{fs:Array Field}{fd:Field}(hp:Zil v off p)(hu:P.underlying t=some (.struct fs))(hf:fs[fi]?=some fd)(ho:fd.offset=off)(hs:(P.info? fd.type).map (·.size)=some (s+1))(hx:ev σ x=some v) :
    Val P n σ A ⟨dd,.fieldAddr t x fi,tr,pos,af,g⟩ p:=fun a w ha _=>by
 obtain⟨b,o,rfl,rfl⟩:=hp;subst ho;have hadd:(⟨b,o,none⟩:Addr).add fd.offset=⟨b,o+fd.offset,none⟩:=by unfold Addr.add;split<;>simp_all
 simp[execOp,ha.eval hx,Z0t hu hf hs,hadd]
variable{r s:ByteArray}
theorem Val.ZlD(hx:ev σ x=some (.string r))(hy:ev σ y=some (.string s)):Val P n σ A ⟨dd,.binOp .eql t x y ty,tr,pos,af,g⟩ (.bool (r.toList==s.toList)):=fun e w ha _=>by simp[execOp,ha.eval hx,ha.eval hy,eqGuard_at_string,binOp_string_eql]
theorem Val.Zgc{w0:World}{hA hV:Hp}{ps:List HP}{os:List HO}{xs:List Int}{e:TypeId}(see:YG w0 hA hV)(i:Nat)(hi:ps[i]?=some (Z9 (Uz .u8) v xs))(hu:P.underlying t=some (.slice e))(he:P.underlying e=some (.int .u8))(hd:P.underlying ty=some .string)(hx:ev σ x=some v) :
    Val P n σ (St w0 hA hV ps os) ⟨dd,.convert t ty x,tr,pos,af,g⟩ (.string (strOfNums xs)):=fun a w ha hw=>by
 obtain⟨ad,cap,rfl,l1,z,f⟩:=St.Ur i hi see.sub see.dj hw;cases ad with
 |none=>
  obtain⟨rfl,-⟩:=z rfl;have:=run_convert_bytes_nil (P:=P) w t e hu he 0 cap ty hd;have e0:strOfNums []=ByteArray.empty:=rfl;simp[execOp,ha.eval hx,e0,this]
 |some ad=>
  by_cases h0:xs=[]
  ·subst h0;have e0:strOfNums []=ByteArray.empty:=rfl;have:(Conv.bytesToString (.slice (some ad) 0 cap)).run P w=.ok (.string ByteArray.empty) w:=by
    have h1:=run_bytesToString (P:=P) w ad 0 cap [] (by simp[loadCells,loadCellsFrom]);simpa using h1
   simp[execOp,ha.eval hx,e0,run_convert_bytes_string w t ty e _ 0 cap hu he hd,this]
  ·obtain⟨x0,hx0⟩:∃x0,xs[0]?=some x0:=by cases xs with
    |nil=>exact absurd rfl h0
    |cons a l=>exact⟨a,rfl⟩
   obtain⟨ab,ao,aq⟩:=ad;have hsp:aq=none:=by have:=(f _ rfl _ _ hx0).1;simpa using this
   subst hsp;have:=run_convert_bytes_arg (P:=P) w t e hu he ab ao xs.length cap xs rfl (fun j hj=>by
    obtain⟨-,cs,r,q⟩:=f _ rfl j xs[j] (by simp[hj]);have r':cs=[.int .u8 xs[j]]:=r;subst r';have:=q.cell (j:=0) (u :=.int .u8 xs[j]) rfl;simp only[Addr.add,if_true]at this;simpa[Uz,List.getD,hj]using this) ty hd
   simp[execOp,ha.eval hx,this]
def Z9I:Value→Bool
 | .slice none _ _=>true
 | _=>false
theorem Val.ZtJ{e:TypeId}{a:Option Addr}{m c:Nat}(hu:P.underlying t=some (.slice e))(hx:ev σ x=some (.slice a m c))(hy:ev σ y=some (.slice none 0 0)):Val P n σ A ⟨dd,.binOp .eql t x y ty,tr,pos,af,g⟩ (.bool (Z9I (.slice a m c))):=fun e w ha _=>by
 have h1:∀d,(Op.equalIn (d+1) t (.slice a m c) (.slice none 0 0)).run P w=.ok a.isNone w:=fun d=>by cases a<;>simp[Op.equalIn,run_underlying hu]
 have h2:(Op.equal t (.slice a m c) (.slice none 0 0)).run P w=.ok a.isNone w:=h1 9999;have h3:(binOp .eql t (.slice a m c) (.slice none 0 0)).run P w=.ok (.bool a.isNone) w:=by simp[binOp,h2]
 have h4:(binOp .eql t (.slice a m c) (.slice none 0 0)).run P w=.ok (.bool (Z9I (.slice a m c))) w:=by rw[h3];cases a<;>rfl
 simp[execOp,ha.eval hx,ha.eval hy,eqGuard_at_slice,h4]
theorem Val.ZjH{w0:World}{hA hV:Hp}{ps:List HP}{os:List HO}{α:Type}{k:Kd α}{xs:List α}{e:TypeId}(see:YG w0 hA hV)(i:Nat)(hi:ps[i]?=some (Z9 k v xs))(hu:P.underlying t=some (.slice e))(hx:ev σ x=some v)(hy:ev σ y=some (.slice none 0 0)) :
    Val P n σ (St w0 hA hV ps os) ⟨dd,.binOp .eql t x y ty,tr,pos,af,g⟩ (.bool (Z9I v)):=fun a w ha hw=>by
 obtain⟨ad,cap,rfl,l1,z,f⟩:=St.Ur i hi see.sub see.dj hw;exact Val.ZtJ (A:=St w0 hA hV ps os) hu hx hy a w ha hw
theorem Xb.isNil{α:Type}{k:Kd α}{h:Hp}{xs:List α}(r:Xb k h v xs)(e:Z9I v=true):xs=[]:=by
 obtain⟨ad,cap,rfl,l1,z,f⟩:=r;cases ad with
 |none=>exact(z rfl).1
 |some a=>cases e
noncomputable def both{α:Type}(x y:Option α):Option α:=open Classical in if x=y then x else none
theorem ZaM{α:Type}{x y:Option α}{r:α}(h:both x y=some r):x=some r∧y=some r:=by
 unfold both at h;split at h
 ·rename_i e;exact⟨h,e▸h⟩
 ·cases h
theorem Zgd{α:Type}(x:Option α):both x x=x:=by simp[both]
noncomputable def Z8J{α β:Type}(l:List α)(x y:Option β):Option β:=match l with
 | []=>both x y
 | _=>y
theorem ZdO{α β:Type}{l:List α}{x y:Option β}{r:β}(h:Z8J l x y=some r)(e:l=[]):x=some r:=by subst e;exact(ZaM h).1
theorem ZdP{α β:Type}{l:List α}{x y:Option β}{r:β}(h:Z8J l x y=some r):y=some r:=by
 cases l with
 |nil=>exact(ZaM h).2
 |cons a l=>exact h
variable{k1 k2:IntKind}{a b:Int}
theorem Val.max2{ts:Array TypeId}(hx:ev σ x=some (.int k1 a))(hy:ev σ y=some (.int k2 b)):Val P n σ A ⟨dd,.call ⟨.builtin .max,#[x,y],ts⟩,tr,pos,af,g⟩ (.int k1 (if b>a then b else a)):=fun e w ha _=>by
 simp[execOp,resolve,invoke,builtin,ha.eval hx,ha.eval hy,run_max_int2]
end
section
variable{P:Program}{n:Fr}{ρ:Option Nat}{σ:List (Nat×Value)}{w0:World}{hA hV:Hp}{ps:List HP}{os:List HO}
def Z3d(tmps:Array Value):ResultVar→Sem Value
 | .tmp t=>pure (tmps.getD t undef)
 | .cell a t=>do loadVar t (←asAddr (tmps.getD a undef))
def Xp(P:Program)(n:Fr)(σ:List (Nat×Value))(A:World→Prop):List ResultVar→List Value→Prop
 | [],[]=>True
 |r::rs,v::vs=>(∀a w,Env n σ a→A w→(Z3d a.tmps r).run P w=.ok v w)∧Xp P n σ A rs vs
 | _,_=>False
theorem Xp.run{A:World→Prop}{a:Act}{w:World}(ha:Env n σ a)(hw:A w):∀{rs:List ResultVar} {vs:List Value},Xp P n σ A rs vs→(rs.mapM (Z3d a.tmps)).run P w=.ok vs w
 | [],[],_=>by simp
 | [],_::_,h=>h.elim
 | _::_,[],h=>h.elim
 |r::rs,v::vs,⟨h1,h2⟩=>by
  rw[List.mapM_cons];simp[h1 a w ha hw,Xp.run ha hw h2]
def single:List Value→Value
 | [v]=>v
 |vs =>.tuple vs.toArray
theorem Xp.told{fn:Func}{rs:List ResultVar}{vs:List Value}{A:World→Prop}{a:Act}{w:World}(hr:fn.results=rs.toArray)(ha:Env n σ a)(hw:A w)(hv:Xp P n σ A rs vs):(results fn a.tmps).run P w=.ok (single vs) w:=by
 have:=Xp.run (P:=P) ha hw hv;have h2:(rs.toArray.mapM (Z3d a.tmps)).run P w=.ok vs.toArray w:=by
  rw[List.mapM_toArray,Sem.run_map,this];simp
 have h3:results fn a.tmps=(do let vs ←rs.toArray.mapM (Z3d a.tmps);pure (if h:vs.size=1 then vs[0]else .tuple vs)):=by
  unfold results;rw[hr];congr 1
 rw[h3,Sem.run_bind,h2]
 match vs with
 | []=>simp[single]
 | [v]=>simp[single]
 | _::_::_=>simp[single]
theorem QE.Z89{fn:Func}{rs:List ResultVar}{vs:List Value}{R:Ending→World→Prop}{A:World→Prop}(hr:fn.results=rs.toArray)(hds:n.ds=[])(hv:Xp P n σ A rs vs)(h:∀w,A w→R (.returned (single vs)) w):QE n σ A (bodyPost P fn R) .ret:=fun a w ha hw=>
 ⟨ha.2.1.trans hds,single vs,Xp.told hr ha hw hv,h w hw⟩
theorem Xp.tmp{A:World→Prop}{t:Nat}{v:Value}(h:find t σ=some v):∀a w,Env n σ a→A w→(Z3d a.tmps (.tmp t)).run P w=.ok v w:=fun a w ha _=>by
 have:=ha.2.2 t v h;simp[Z3d,this]
theorem Xp.Z3T{t b:Nat}{ty T:TypeId}{cs:List Value}(i:Nat)(h:find t σ=some (.pointer (some ⟨b,0,none⟩)))(hi:os[i]?=some (Zl b cs T)){X5:TypeDesc}(hu:P.underlying ty=some X5)(hd:(match X5 with | .struct _ | .array _ _=>true | _=>false)=true)(hs:(P.info? ty).map (·.size)=some cs.length) :
    ∀a w,Env n σ a→St w0 hA hV ps os w→(Z3d a.tmps (.cell t ty)).run P w=.ok (.agg cs.toArray) w:=fun a w ha hw=>by
 have h1:=ha.2.2 t _ h;have h2:=hw.cell i hi;have:=Ke (P:=P) (w:=w) (a:=⟨b,0,none⟩) (cs:=cs) hu hd hs (fun j u hj=>by
  have hadd:(⟨b,0,none⟩:Addr).add j=⟨b,j,none⟩:=by unfold Addr.add;split<;>simp_all
  rw[hadd];simp[World.cell?,h2,hj])
 simp[Z3d,h1,asAddr,this]
theorem Xp.cell1{t b:Nat}{ty T:TypeId}{v:Value}(i:Nat)(h:find t σ=some (.pointer (some ⟨b,0,none⟩)))(hi:os[i]?=some (Zl b [v] T)){X5:TypeDesc}(hu:P.underlying ty=some X5)(hd:(match X5 with | .struct _ | .array _ _=>true | _=>false)=false) :
    ∀a w,Env n σ a→St w0 hA hV ps os w→(Z3d a.tmps (.cell t ty)).run P w=.ok v w:=fun a w ha hw=>by
 have h1:=ha.2.2 t _ h;have h2:=hw.cell i hi;have hc:w.cell? ⟨b,0,none⟩=some v:=by simp[World.cell?,h2]
 simp[Z3d,h1,asAddr,WQ hu hd hc]
end
section
variable{P:Program}{n:Fr}{ρ:Option Nat}{σ:List (Nat×Value)}{w0:World}{hA hV:Hp}{ps:List HP}{os:List HO}{L l:List Oper}{Q:Cont}{d:Nat}{t tr e:TypeId}{pos:String}{af:Array Edge}{g:Option (Nat×Bool)}{α:Type}{k:Kd α}{xs:List α}
def keys:Nat→List Value→List Nat
 | _,[]=>[]
 |i,_::r=>i::keys (i+1) r
def szs(m:Nat):List Value→Bool
 | []=>true
 |v::r=>Nat.beq v.cells.size m&&szs m r
def Z4R:List Value→List Value
 | []=>[]
 |v::r=>v.cells.toList++Z4R r
theorem keys_eq:∀(i:Nat) (vs:List Value),((vs.zipIdx i).map fun x=>(x.2,x.1)).map (·.1)=keys i vs
 | _,[]=>rfl
 |i,v::r=>by simpa[keys]using keys_eq (i+1) r
theorem ZdQ:∀(i:Nat) (vs:List Value),((vs.zipIdx i).map fun x=>(x.2,x.1)).map (·.2)=vs
 | _,[]=>rfl
 |i,v::r=>by simpa using ZdQ (i+1) r
theorem ZdR{m:Nat}:∀{vs:List Value},szs m vs=true→∀v∈vs,v.cells.size=m
 | [],_,_,h=>by cases h
 |u::r,h,v,hv=>by
  simp only[szs,Bool.and_eq_true]at h;rcases List.mem_cons.1 hv with rfl|hv
  ·exact Nat.eq_of_beq_eq_true h.1
  ·exact ZdR h.2 v hv
theorem ZbV:∀(vs:List Value),vs.flatMap (fun v=>v.cells.toList)=Z4R vs
 | []=>rfl
 |v::r=>by rw[List.flatMap_cons,ZbV r];rfl
theorem SP.lit{len:Nat}{parts:Array (Nat×Operand)}{vs:List Value}{cs cells:List Value}{bytes:Nat}(hu:P.underlying t=some (.slice e))(hin:(P.info? e).map (fun i=>((i.zero.map fun z=>z.cells.toList),i.size,i.bytes))=some (some cs,k.sz,bytes))
    (hp:parts.toList.map (fun q=>q.1)=keys 0 vs) (he:evs σ (parts.toList.map (·.2))=some vs) (hsmall:Nat.ble (len*k.sz) 1000=true) (hpos:Nat.blt 0 (len*k.sz)=true) (hpk:Nat.blt 0 k.sz=true) (hlv:vs.length=len)
    (hz:szs k.sz vs=true) (hf:Z4R vs=cells)
    (hxs:∀a,All ps a→Flat k a cells xs) (hl:xs.length=len) (hg:gd L σ g=some true) (hn:Nat.blt d n.n=true)
    (h:∀v,SP P n ρ ((d,v)::σ) (St w0 hA hV ps (Zg k e v xs::os)) L l Q):SP P n ρ σ (St w0 hA hV ps os) L (⟨some d,.buildSlice t len parts,tr,pos,af,g⟩::l) Q:=by
 have hk:0<k.sz:=by simpa using hpk
 have hm:=ZdR hz;have hfl:cells.length=vs.length*k.sz:=by
  rw[←hf];clear hf he hp hlv hz;induction vs with
  |nil=>simp[Z4R]
  |cons v r ih=>
   have h1:=hm v List.mem_cons_self;have h2:=ih fun u hu=>hm u (List.mem_cons_of_mem _ hu);simp only[Z4R,List.length_append,h2,List.length_cons,Nat.add_mul,Nat.one_mul];rw[Array.length_toList,h1];omega
 refine SP.buildSlice (k:=k) (xs:=xs) (us:=(vs.zipIdx 0).map fun x=>(x.2,x.1)) (cells:=cells) hu hin (by rw[keys_eq];exact hp) (by rw[ZdQ];exact he) hsmall hpos ?_ hxs (by rw[hfl,hlv,hl]) hl hg hn h;rw[Go.Great.fill_whole hk vs _ hm (by simp[hlv]),ZbV,hf]
theorem SP.ZbW{cs:List Value}{bytes:Nat}(hu:P.underlying t=some (.slice e))(hin:(P.info? e).map (fun i=>((i.zero.map fun z=>z.cells.toList),i.size,i.bytes))=some (some cs,k.sz,bytes))(hg:gd L σ g=some true)(hn:Nat.blt d n.n=true)
    (h:∀v,SP P n ρ ((d,v)::σ) (St w0 hA hV ps (Zg k e v ([]:List α)::os)) L l Q):SP P n ρ σ (St w0 hA hV ps os) L (⟨some d,.buildSlice t 0 #[],tr,pos,af,g⟩::l) Q:=by
 refine SP.op (fun v:Value=>v) (fun v=>St w0 hA hV ps (Zg k e v ([]:List α)::os)) hg rfl hn (fun a w ha hw=>?_) h;obtain⟨i,z,i1,i2,i3,i4,i5⟩:=Z47 hin;have hr:(Instr.buildSlice t 0 #[]).run P w=.ok (.slice (some ⟨w.heap.size,0,none⟩) 0 0) (w.alloc (.cells #[] e)):=by
  have h0:Array.range 0 = #[]:=rfl;simp[Instr.buildSlice,run_underlying hu,sizeOf,typeInfo,i1,newRow,Instr.fill,h0]
 refine⟨.slice (some ⟨w.heap.size,0,none⟩) 0 0,w.alloc (.cells #[] e),by simp[execOp,hr],hw.Z6l _ fun b hb=>⟨[],rfl,?_⟩⟩;exact⟨by simp,.inr ⟨w.heap.size,0,#[],rfl,by simp[bk],by simp,by simp,by simp,by simp⟩⟩
end
theorem Z4S{v:Value}(h:v.oneCell'=true):v.cells = #[v]:=by cases v<;>first|rfl|cases h
end Go.Q
namespace Go.Q
def Z55(m:Nat):Kd (List Value):=⟨m,fun _ cs x=>cs=x∧x.length=m∧one x=true,fun _ _ _ _ _ h=>h,fun _ _ _ ⟨e,l,_⟩=>by rw[e];exact l,fun _ _ _ ⟨e,_,o⟩=>by rw[e];exact o⟩
structure Ko(α:Type) where
 kd:Kd α
 ow:List Value→α→HO
 rd:∀{a h H:Hp} {c:List Value} {x:α},(ow c x).p a h→Sub a H→Sub h H→kd.rd H c x
def VJ{α:Type}(k:Ko α):List (List Value)→List α→HO
 | [],[]=>HO.em
 |c::cs,x::xs=>HO.and (k.ow c x) (VJ k cs xs)
 | _,_=>HO.pure False
theorem VJ.len{α:Type}{k:Ko α}{a:Hp}:∀{cs:List (List Value)} {xs:List α} {h:Hp},(VJ k cs xs).p a h→cs.length=xs.length
 | [],[],_,_=>rfl
 | _::_,_::_,_,⟨_,_,_,_,_,_,q⟩=>by simp[VJ.len q]
 | [],_::_,_,h=>h.elim
 | _::_,[],_,h=>h.elim
theorem VJ.append{α:Type}{k:Ko α}{a:Hp}:∀{cs:List (List Value)} {xs:List α} {ds:List (List Value)} {ys:List α} {h g:Hp},Dj h g→(VJ k cs xs).p a h→(VJ k ds ys).p a g→(VJ k (cs++ds) (xs++ys)).p a (un h g)
 | [],[],_,_,h,g,dj,_,q=>(VJ k _ _).mono _ _ _ _ (Sub.refl _) (Sub.YH dj) q
 | _::_,_::_,_,_,h,g,dj,⟨h1,h2,d,s1,s2,p,q⟩,r=>
  have dg2:=dj.sub s2 (Sub.refl _);have dg1:=dj.sub s1 (Sub.refl _)
  ⟨h1,un h2 g,Dj.YH d dg1,s1.trans (Sub.Xe _ _),Sub.Vl (s2.trans (Sub.Xe _ _)) (Sub.YH dj),p,VJ.append dg2 q r⟩
 | [],_::_,_,_,_,_,_,h,_=>h.elim
 | _::_,[],_,_,_,_,_,h,_=>h.elim
theorem VJ.take{α:Type}{k:Ko α}{a:Hp}:∀{i:Nat} {cs:List (List Value)} {xs:List α} {h:Hp} {x:α},(VJ k cs xs).p a h→xs[i]?=some x →
    ∃c h1 h2,cs[i]?=some c∧Dj h1 h2∧Sub h1 h∧Sub h2 h∧(k.ow c x).p a h1∧∀a' h' c' x',Sub a a'→Dj h' h2→(k.ow c' x').p a' h'→(VJ k (cs.set i c') (xs.set i x')).p a' (un h' h2)
 | _,[],[],_,_,_,hx=>by simp at hx
 | 0,c::cs,y::xs,h,x,⟨h1,h2,d,s1,s2,p,q⟩,hx=>by
  simp at hx;subst hx;exact⟨c,h1,h2,rfl,d,s1,s2,p,fun a' h' c' x' sa dj r=>⟨h',h2,dj,Sub.Xe _ _,Sub.YH dj,r,(VJ k _ _).mono _ _ _ _ sa (Sub.refl _) q⟩⟩
 |i+1,c::cs,y::xs,h,x,⟨h1,h2,d,s1,s2,p,q⟩,hx=>by
  obtain⟨c1,g1,g2,hc,dj,t1,t2,r,back⟩:=VJ.take (i:=i) q (by simpa using hx);refine⟨c1,g1,un h1 g2,by simpa using hc,Dj.YH (d.symm.sub t1 (Sub.refl _)) dj,t1.trans s2,Sub.Vl s1 (t2.trans s2),r,fun a' h' c' x' sa dj' r'=>?_⟩;have d1:Dj h' h1:=dj'.sub (Sub.refl _) (Sub.Xe _ _);have d2:Dj h' g2:=dj'.sub (Sub.refl _) (Sub.YH (d.sub (Sub.refl _) t2));refine⟨h1,un h' g2,Dj.YH d1.symm (d.sub (Sub.refl _) t2),?_,?_,(k.ow c y).mono _ _ _ _ sa (Sub.refl _) p,back a' h' c' x' sa d2 r'⟩
  ·exact(Sub.Xe h1 g2).trans (Sub.YH dj')
  ·exact Sub.Vl (Sub.Xe _ _) ((Sub.YH (d.sub (Sub.refl _) t2)).trans (Sub.YH dj'))
 | _,[],_::_,_,_,h,_=>h.elim
 | _,_::_,[],_,_,h,_=>h.elim
def Vf{α:Type}(k:Ko α)(T:TypeId)(v:Value)(xs:List α):HO:=HO.ex fun css=>HO.and (Zg (Z55 k.kd.sz) T v css) (VJ k css xs)
theorem Vf.nil{α:Type}(k:Ko α)(T:TypeId)(a:Hp):(Vf k T (.slice none 0 0) ([]:List α)).p a em:=⟨[],em,em,Dj.YM _,Sub.em _,Sub.em _,Zg.nil _ _ _,trivial⟩
theorem ZbX{α:Type}{k:Ko α}{a h H:Hp}:∀{css:List (List Value)} {xs:List α} {cells:List Value},Flat (Z55 k.kd.sz) a cells css→(VJ k css xs).p a h→Sub a H→Sub h H→Flat k.kd H cells xs
 | [],[],_,f,_,_,_=>f
 |c::css,x::xs,cells,⟨cs,rest,e,r,f⟩,⟨h1,h2,d,s1,s2,p,q⟩,sa,sh=>⟨cs,rest,e,by
     have:cs=c:=r.1;rw[this];exact k.rd p sa (s1.trans sh),ZbX f q sa (s2.trans sh)⟩
 | [],_::_,_,_,h,_,_=>h.elim
 | _::_,[],_,_,h,_,_=>h.elim
theorem Vf.flat{α:Type}{k:Ko α}{T:TypeId}{v:Value}{xs:List α}{a h H:Hp}(r:(Vf k T v xs).p a h)(sa:Sub a H)(sh:Sub h H):(Zg k.kd T v xs).p H H:=by
 obtain⟨css,h1,h2,d,s1,s2,⟨cells,f,q⟩,z⟩:=r;refine⟨cells,ZbX f z sa (s2.trans sh),?_⟩;have:=VJ.len z;rw[this]at q;exact q.mono (s1.trans sh)
theorem Vf.read{α:Type}{k:Ko α}{T:TypeId}{v:Value}{xs:List α}{a h H:Hp}(r:(Vf k T v xs).p a h)(sa:Sub a H)(sh:Sub h H):Xb k.kd H v xs:=Zg.read (Vf.flat r sa sh) (Sub.refl _) (Sub.refl _)
theorem Vf.shape{α:Type}{k:Ko α}{T:TypeId}{a h:Hp}{v:Value}{xs:List α}(r:(Vf k T v xs).p a h):v.oneCell'=true:=by
 obtain⟨css,h1,h2,d,s1,s2,q,z⟩:=r;exact Zg.shape q
section
variable{P:Program}{n:Fr}{ρ:Option Nat}{σ:List (Nat×Value)}{w0 w:World}{hA hV:Hp}{ps:List HP}{os:List HO}{L l:List Oper}{Q:Cont}{d:Nat}{dd:Option Nat}{t e T tr:TypeId}{x y:Operand}{pos:String}{af:Array Edge}{g:Option (Nat×Bool)}{v u p:Value}{α β:Type}{k:Ko α}{xs ys:List α}{x0 z0:α}{j:Int}{m off:Nat}
theorem Sep.swap{X Y:HO}{a b:Hp}:Sep a (X::Y::os) b→Sep a (Y::X::os) b
 |⟨h1,r,d1,s1,s2,p,h2,r2,d2,t1,t2,q,s⟩=>
  have d12:=d1.sub (Sub.refl _) t1;have d1r:=d1.sub (Sub.refl _) t2
  ⟨h2,un h1 r2,Dj.YH d12.symm d2,t1.trans s2,Sub.Vl s1 (t2.trans s2),q,h1,r2,d1r,Sub.Xe _ _,Sub.YH d1r,p,s⟩
theorem Sep.under{X:HO}{os os':List HO}{a b:Hp}(f:∀h,Sep a os h→Sep a os' h):Sep a (X::os) b→Sep a (X::os') b
 |⟨h1,r,d1,s1,s2,p,s⟩=>⟨h1,r,d1,s1,s2,p,f r s⟩
theorem St.swap{X Y:HO}(h:St w0 hA hV ps (X::Y::os) w):St w0 hA hV ps (Y::X::os) w:=h.imp (fun _ a=>a) fun _ _ _ s=>s.swap
theorem St.rot{X Y Z:HO}(h:St w0 hA hV ps (X::Y::Z::os) w):St w0 hA hV ps (Y::Z::X::os) w:=h.imp (fun _ a=>a) fun _ _ _ s=>Sep.under (fun _ s=>s.swap) s.swap
theorem St.under{X Y Z:HO}(h:St w0 hA hV ps (X::Y::Z::os) w):St w0 hA hV ps (X::Z::Y::os) w:=h.imp (fun _ a=>a) fun _ _ _ s=>Sep.under (fun _ s=>s.swap) s
theorem St.opD(h:St w0 hA hV ps (Vf k T v xs::os) w):∃css,St w0 hA hV ps (Zg (Z55 k.kd.sz) T v css::VJ k css xs::os) w:=by
 obtain⟨css,h1⟩:=St.open h;exact⟨css,St.and h1⟩
theorem St.ZeN{X Y Z:HO}(hz:∀a h1 h2,Dj h1 h2→X.p a h1→Y.p a h2→Z.p a (un h1 h2))(h:St w0 hA hV ps (X::Y::os) w):St w0 hA hV ps (Z::os) w:=
 h.imp (fun _ a=>a) fun a b _ s0=>by
  obtain⟨h1,r,d1,s1,s2,p,h2,r2,d2,t1,t2,q,s⟩:=s0;have d12:=d1.sub (Sub.refl _) t1;have d1r:=d1.sub (Sub.refl _) t2;exact⟨un h1 h2,r2,Dj.Xe d1r d2,Sub.Vl s1 (t1.trans s2),t2.trans s2,hz a h1 h2 d12 p q,s⟩
theorem St.clD{css:List (List Value)}(h:St w0 hA hV ps (Zg (Z55 k.kd.sz) T v css::VJ k css xs::os) w):St w0 hA hV ps (Vf k T v xs::os) w:=
 St.ZeN (fun a h1 h2 dj p q=>⟨css,h1,h2,dj,Sub.Xe _ _,Sub.YH dj,p,q⟩) h
theorem SP.ZdS(see:YG w0 hA hV)(hu:P.underlying t=some (.slice e)){cs:List Value}{bytes:Nat}(hin:(P.info? e).map (fun i=>((i.zero.map fun z=>z.cells.toList),i.size,i.bytes))=some (some cs,k.kd.sz,bytes))(hz:Nat.beq cs.length k.kd.sz=true)(hk:Nat.blt 0 k.kd.sz=true)
    (hb:(xs.length+ys.length)*bytes≤140737488355328) (hb0:Nat.blt 0 bytes=true) (hg:gd L σ g=some true) (hn:Nat.blt d n.n=true) (hx:ev σ x=some v) (hy:ev σ y=some u)
    (h:∀v',SP P n ρ ((d,v')::σ) (St w0 hA hV ps (Vf k e v' (xs++ys)::os)) L l Q):SP P n ρ σ (St w0 hA hV ps (Vf k e v xs::Vf k e u ys::os)) L (⟨some d,.call ⟨.builtin .append,#[x,y],#[t,t]⟩,tr,pos,af,g⟩::l) Q:=by
 refine SP.ex (fun w hw=>St.opD hw) (fun css=>?_);refine SP.imp (fun w hw=>St.rot hw) ?_;refine SP.imp (fun w hw=>St.rot hw) ?_;refine SP.ex (fun w hw=>St.opD hw) (fun dss=>?_);refine SP.have (fun w hw=>VJ.len (St.own 1 rfl see.sub see.dj hw)) (fun l2=>?_);refine SP.have (fun w hw=>VJ.len (St.own 3 rfl see.sub see.dj hw)) (fun l1=>?_);refine SP.Vk see 0 rfl ?_;refine SP.append (k:=Z55 k.kd.sz) see 1 rfl 0 rfl hu hin hz hk (by rw[l1,l2];exact hb) hb0 hg hn hx hy (fun v'=>?_);refine SP.imp (fun w hw=>?_) (h v');have h1:St w0 hA hV ps (VJ k dss ys::Zg (Z55 k.kd.sz) e v' (css++dss)::VJ k css xs::os) w:=St.Zp0 1 hw;have h2:=St.swap (St.under h1);have h3:=St.ZeN (Z:=VJ k (css++dss) (xs++ys)) (fun a h1 h2 dj p q=>VJ.append dj p q) h2;exact St.clD (St.swap h3)
theorem St.group:∀(l:List HO) {os:List HO},St w0 hA hV ps (l++os) w→St w0 hA hV ps (HO.Yk l::os) w
 | [],_,h=>h.imp (fun _ a=>a) fun _ b _ s=>⟨em,b,Dj.YM _,Sub.em _,Sub.refl _,trivial,s⟩
 |X::l,os,h=>by
  have h1:St w0 hA hV ps (X::HO.Yk l::os) w:=h.imp (fun _ a=>a) fun a b al s0=>by
   obtain⟨h1,r,d1,s1,s2,p,s⟩:=s0;have key:∀(l:List HO) {b:Hp},Sep a (l++os) b→∃g1 g2,Dj g1 g2∧Sub g1 b∧Sub g2 b∧Sep a l g1∧Sep a os g2:=by
    intro l;induction l with
    |nil=>intro b s;exact⟨em,b,Dj.YM _,Sub.em _,Sub.refl _,trivial,s⟩
    |cons Y l ih=>
     intro b ⟨k1,k2,d,t1,t2,q,s⟩;obtain⟨g1,g2,dg,u1,u2,sl,so⟩:=ih s;have d1:=d.sub (Sub.refl _) u1;have d2:=d.sub (Sub.refl _) u2;exact⟨un k1 g1,g2,Dj.Xe d2 dg,Sub.Vl t1 (u1.trans t2),u2.trans t2,⟨k1,g1,d1,Sub.Xe _ _,Sub.YH d1,q,sl⟩,so⟩
   obtain⟨g1,g2,dg,u1,u2,sl,so⟩:=key l s;exact⟨h1,r,d1,s1,s2,p,g1,g2,dg,u1,u2,sl,so⟩
  exact St.ZeN (fun a h1 h2 dj p q=>⟨h1,h2,dj,Sub.Xe _ _,Sub.YH dj,p,q⟩) h1
theorem St.ZtK{X Y:HO}(f:∀a b,X.p a b→Y.p a b)(h:St w0 hA hV ps (X::os) w):St w0 hA hV ps (Y::os) w:=
 h.imp (fun _ a=>a) fun a b _ s0=>by
  obtain⟨h1,r,d1,s1,s2,p,s⟩:=s0;exact⟨h1,r,d1,s1,s2,f _ _ p,s⟩
theorem VJ.one{a h:Hp}{c:List Value}(r:(k.ow c x0).p a h):(VJ k [c] [x0]).p a h:=⟨h,em,Dj.WM _,Sub.refl _,Sub.em _,r,trivial⟩
theorem St.ZlF{c:List Value}(l:List HO)(h:St w0 hA hV ps (Zg (Z55 k.kd.sz) T v [c]::l++os) w)(f:∀a b,Sep a l b→(k.ow c x0).p a b):St w0 hA hV ps (Vf k T v [x0]::os) w:=by
 have h1:=St.group (Zg (Z55 k.kd.sz) T v [c]::l) h;refine St.ZtK (fun a b s=>?_) h1;obtain⟨h1,r,d1,s1,s2,p,s⟩:=s;exact⟨[c],h1,r,d1,s1,s2,p,VJ.one (f _ _ s)⟩
end
section
variable{P:Program}{n:Fr}{ρ:Option Nat}{σ:List (Nat×Value)}{A:World→Prop}{L l:List Oper}{Q:Cont}{d:Nat}{dd:Option Nat}{t e T tr:TypeId}{x y:Operand}{pos:String}{af:Array Edge}{g:Option (Nat×Bool)}{v u p:Value}{α:Type}{k:Kd α}{xs:List α}{x0 z0:α}{j:Int}{m off:Nat}
theorem Val.ZtL(how:∀w,A w→(Zg k T v xs).p (hp w) (hp w)){e:TypeId}(hu:P.underlying t=some (.slice e))(hx:ev σ x=some v):Val P n σ A ⟨dd,.call ⟨.builtin .len,#[x],#[t]⟩,tr,pos,af,g⟩ (.int .i64 (xs.length:Int)):=by
 intro a w ha hw;obtain⟨ad,cap,rfl,-⟩:=Zg.read (how w hw) (Sub.refl _) (Sub.refl _);simp[execOp,resolve,invoke,builtin,ha.eval hx,Builtin.len_,run_underlying hu,goInt]
theorem SP.Wo(how:∀w,A w→(Zg k e v xs).p (hp w) (hp w))(hu:P.underlying t=some (.slice e))(hs:(P.info? e).map (·.size)=some k.sz){ik:IntKind}(h0:0≤j)(hj:xs[j.toNat]?=some x0)(hg:gd L σ g=some true)(hn:Nat.blt d n.n=true)(hx:ev σ x=some v)(hy:ev σ y=some (.int ik j))
    (h:∀p,PtC v (j.toNat*k.sz) p→SP P n ρ ((d,p)::σ) A L l Q):SP P n ρ σ A L (⟨some d,.indexAddr t x y,tr,pos,af,g⟩::l) Q:=by
 have hlt:=Vp hj;refine SP.have (q:=∃p,PtC v (j.toNat*k.sz) p∧∃len cap a,v=.slice (some a) len cap∧j<len∧p=.pointer (some (a.add (j.toNat*k.sz)))) (fun w hw=>?_) (fun⟨p,hp,len,cap,a,hv,hl,he⟩=>?_)
 ·obtain⟨cells,f,hl,⟨rfl,hn⟩|⟨gg,cap,cur,rfl,-⟩⟩:=how w hw
  ·omega
  ·refine⟨.pointer (some ⟨gg,j.toNat*k.sz,none⟩),⟨gg,_,_,rfl,rfl⟩,_,_,_,rfl,by omega,?_⟩;have:(⟨gg,0,none⟩:Addr).add (j.toNat*k.sz)=⟨gg,j.toNat*k.sz,none⟩:=by unfold Addr.add;split<;>simp_all
   rw[this]
 ·subst hv;subst he;exact SP.val (fun a' w ha _=>by simp[execOp,ha.eval hx,ha.eval hy,run_indexAt hu hs h0 hl]) hg rfl hn (h _ hp)
theorem Val.Vu(how:∀w,A w→(Zg k e v xs).p (hp w) (hp w))(hx0:xs[j.toNat]?=some x0)(hp:PtC v (j.toNat*k.sz+off) p)(hk:∀a cs,k.rd a cs x0→nv cs off=some u){X5:TypeDesc}(hu:P.underlying t=some X5)(hd:(match X5 with | .struct _ | .array _ _=>true | _=>false)=false)(hx:ev σ x=some p) :
    Val P n σ A ⟨dd,.load t x,tr,pos,af,g⟩ u:=fun a w ha hw=>by
 obtain⟨b,cap,cur,cs,e1,hb,r,q⟩:=Zg.elem (how w hw) hx0;obtain⟨b',len',cap',e2,rfl⟩:=hp;rw[e1]at e2;simp at e2;obtain⟨rfl,-⟩:=e2;have h1:=hk _ _ r;rw[Z5B]at h1;have hb':w.heap[b]?=some (.cells cur e (0,0)):=hb;have:w.cell? ⟨b,j.toNat*k.sz+off,none⟩=some u:=by simp[World.cell?,hb',q off u h1]
 simp[execOp,ha.eval hx,Instr.loadAt,Instr.sureAddr,WQ hu hd this]
end
section
variable{P:Program}{n:Fr}{ρ:Option Nat}{σ:List (Nat×Value)}{w0 w:World}{hA hV:Hp}{ps:List HP}{os:List HO}{L l:List Oper}{Q:Cont}{d:Nat}{dd:Option Nat}{t e T T' tr:TypeId}{x y:Operand}{pos:String}{af:Array Edge}{g:Option (Nat×Bool)}{v u p s:Value}{α β:Type}{k:Ko α}{kd:Kd β}{xs:List α}{x0 z0:α}{j:Int}{i m off:Nat}{get:α→List β}{set:α→List β→α}
theorem VJ.put{a h:Hp}{css:List (List Value)}(z:(VJ k css xs).p a h)(hx:xs[i]?=some x0){c c':List Value}(hc:css[i]?=some c)(f:∀a h,(k.ow c x0).p a h→(k.ow c' z0).p a h):(VJ k (css.set i c') (xs.set i z0)).p a h:=by
 obtain⟨c1,h1,h2,e,dj,s1,s2,ow,back⟩:=VJ.take z hx;rw[hc]at e;obtain rfl:=sI e;exact(VJ k _ _).mono _ _ _ _ (Sub.refl _) (Sub.Vl s1 s2) (back a h1 c' z0 (Sub.refl _) dj (f _ _ ow))
theorem QE.imp{A A':World→Prop}{ex:Exit}(hx:∀w,A w→A' w)(h:QE n σ A' Q ex):QE n σ A Q ex:=fun a w ha hw=>h a w ha (hx w hw)
end
theorem Zg.whole{α:Type}{k:Kd α}{T:TypeId}{v:Value}{xs:List α}{w:World}(h:(Zg k T v xs).p (hp w) (hp w)):(Zg k T v xs).p (hp w) (hp w):=h
section
variable{P:Program}{n:Fr}{ρ:Option Nat}{σ:List (Nat×Value)}{w0 w:World}{hA hV:Hp}{ps:List HP}{os:List HO}{L l:List Oper}{Q:Cont}{dd:Option Nat}{t tr:TypeId}{x:Operand}{pos:String}{af:Array Edge}{g:Option (Nat×Bool)}{v:Value}
theorem SP.Z2V(see:YG w0 hA hV)(i:Nat){b:Nat}{cs:List Value}{T:TypeId}(hi:os[i]?=some (Zl b cs T))(h:SP P n ρ σ (St w0 hA hV (Ku b cs T::ps) (os.eraseIdx i)) L l Q):SP P n ρ σ (St w0 hA hV ps os) L l Q:=
 SP.imp (fun w hw=>hw.freeze i hi see.dj see.sub) h
theorem Val.Z5h(see:YG w0 hA hV)(i:Nat){b off:Nat}{cs:List Value}{T:TypeId}{X5:TypeDesc}(hi:ps[i]?=some (Ku b cs T))(hu:P.underlying t=some X5)(hd:(match X5 with | .struct _ | .array _ _=>true | _=>false)=false)
    (hx:ev σ x=some (.pointer (some ⟨b,off,none⟩))) (hc:nv cs off=some v):Val P n σ (St w0 hA hV ps os) ⟨dd,.load t x,tr,pos,af,g⟩ (v):=by
 intro a w ha hw;have hb:w.heap[b]?=some (.cells cs.toArray T (0,0)):=St.Ur i hi see.sub see.dj hw;have hcell:w.cell? ⟨b,off,none⟩=some v:=by
  rw[Z5B]at hc;simp[World.cell?,hb,hc]
 simp[execOp,ha.eval hx,Instr.loadAt,Instr.sureAddr,WQ hu hd hcell]
end
end Go.Q
namespace Go.Q
def Z8a:List (Nat×Nat)→Nat→Option (Nat×Nat)
 | [],_=>none
 |v::_,0=>some v
 | _::r,n+1=>Z8a r n
theorem Z9J:∀(l:List (Nat×Nat)) (i:Nat),Z8a l i=l[i]?
 | [],_=>by simp[Z8a]
 | _::_,0=>by simp[Z8a]
 | _::r,n+1=>by simp[Z8a,Z9J r n]
def Z5D(pl:List (Nat×Nat)):List Value→List (Nat×List Value)→Option (List Value)
 |cells,[]=>some cells
 |cells,(i,c)::rest=>match Z8a pl i with
  |none=>none
  |some (off,size)=>bif Nat.beq c.length size&&Nat.ble (off+size) cells.length then Z5D pl (put cells off c) rest else none
def CA:List (Nat×Value)→List (Nat×List Value)→Prop
 | [],[]=>True
 |(i,v)::r,(j,c)::s=>i=j∧v.cells=c.toArray∧CA r s
 | _,_=>False
theorem Zim(off:Nat)(c cells:List Value)(h:off+c.length≤cells.length):(c.toArray.zipIdx.foldl (fun cs (x:Value×Nat)=>cs.setIfInBounds (off+x.2) x.1) cells.toArray)=(put cells off c).toArray:=by
 have e:c.toArray.zipIdx.foldl (fun cs (x:Value×Nat)=>cs.setIfInBounds (off+x.2) x.1) cells.toArray=(c.zipIdx 0).foldl (fun cs (x:Value×Nat)=>cs.setIfInBounds (off+x.2) x.1) cells.toArray:=by
  simp
 rw[e];obtain⟨h1,h2⟩:=Go.Great.foldl_set off c 0 cells.toArray;apply Array.ext_getElem?;intro k;rw[h2 k];have:=Z1j (cs:=cells) (vs:=c) (o:=off) (i:=k) h;simp only[List.getElem?_toArray];rw[this];simp only[Nat.add_zero,List.size_toArray];by_cases hk:off≤k∧k<off+c.length
 ·rw[if_pos ⟨hk.1,hk.2,by omega⟩,if_pos hk]
 ·rw[if_neg (by omega),if_neg hk]
theorem Z9K{place:Nat→Option (Nat×Nat)}{pl:List (Nat×Nat)}(hp:∀i x,Z8a pl i=some x→place i=some x):∀{us:List (Nat×Value)} {ucs:List (Nat×List Value)} {cells cs:List Value},CA us ucs→Z5D pl cells ucs=some cs→Instr.fill place cells.toArray us=some cs.toArray
 | [],[],cells,cs,_,h=>by
  simp only[Z5D,Option.some.injEq]at h;subst h;rfl
 |(i,v)::r,(j,c)::s,cells,cs,⟨e,hc,ca⟩,h=>by
  subst e;unfold Z5D at h;split at h
  ·cases h
  ·rename_i off size hn
   cases hb:(Nat.beq c.length size&&Nat.ble (off+size) cells.length)with
   |false=>rw[hb]at h;cases h
   |true=>
    rw[hb]at h;simp only[cond_true]at h;simp only[Bool.and_eq_true]at hb;have h1:=Nat.eq_of_beq_eq_true hb.1;have h2:=Nat.le_of_ble_eq_true hb.2;unfold Instr.fill;rw[hp i _ hn];simp only[hc];rw[if_neg (by simp;omega)];have:=Zim off c cells (by omega);have e2:(c.toArray.zipIdx.foldl (fun cs (x:Value×Nat)=>match x with|(c,j)=>cs.setIfInBounds (off+j) c) cells.toArray)=(put cells off c).toArray:=this;exact e2▸Z9K hp ca h
 | [],_::_,_,_,h,_=>h.elim
 | _::_,[],_,_,h,_=>h.elim
def shapeOf(P:Program)(t:TypeId):Option (List Value×List (Nat×Nat)):=
 match P.info? t,P.underlying t with
 |some it,some (.struct fields)=>match it.zero,fields.toList.mapM (fun f=>(P.info? f.type).map fun i=>(f.offset,i.size))with
  |some z,some places=>some (z.cells.toList,places)
  | _,_=>none
 |some it,some (.array len e)=>match it.zero,P.info? e with
  |some z,some ie=>some (z.cells.toList,(List.range len).map fun i=>(i*ie.size,ie.size))
  | _,_=>none
 | _,_=>none
theorem Zin{P:Program}{t:TypeId}{z:List Value}{pl:List (Nat×Nat)}(h:shapeOf P t=some (z,pl)){us:List (Nat×Value)}{ucs:List (Nat×List Value)}{cs:List Value}(ca:CA us ucs)(hf:Z5D pl z ucs=some cs):P.built t us=some cs.toArray:=by
 unfold shapeOf at h;unfold Program.built;cases hi:P.info? t with
 |none=>rw[hi]at h;cases h
 |some it=>
  cases hu:P.underlying t with
  |none=>rw[hi,hu]at h;cases h
  |some d=>
   rw[hi,hu]at h;cases d<;>try (cases h;done)
   ·rename_i len e
    dsimp only at h ⊢;cases hz:it.zero with
    |none=>rw[hz]at h;cases h
    |some zz=>
     cases he:P.info? e with
     |none=>rw[hz,he]at h;cases h
     |some ie=>
      rw[hz,he]at h;simp only[Option.some.injEq,Prod.mk.injEq]at h;obtain⟨rfl,rfl⟩:=h;have:=Z9K (place:=fun i=>some (i*ie.size,ie.size)) (fun i x hx=>by
       rw[Z9J,List.getElem?_map]at hx;obtain⟨q,hq,rfl⟩:=Option.map_eq_some_iff.1 hx;have:q=i:=by rw[List.getElem?_range]at hq;exact(sI hq).symm;exact Vp hq |> fun h=>by simpa using h
       rw[this]) ca hf
      simpa using this
   ·rename_i fields
    dsimp only at h ⊢;cases hz:it.zero with
    |none=>rw[hz]at h;cases h
    |some zz=>
     cases he:fields.toList.mapM (fun f=>(P.info? f.type).map fun i=>(f.offset,i.size))with
     |none=>rw[hz,he]at h;cases h
     |some places=>
      rw[hz,he]at h;simp only[Option.some.injEq,Prod.mk.injEq]at h;obtain⟨rfl,rfl⟩:=h;have:=Z9K (place:=fun i=>places.toArray[i]?) (pl:=places) (fun i x hx=>by rw[Z9J]at hx;simpa using hx) ca hf;simpa using this
theorem Val.Z8K{P:Program}{n:Fr}{σ:List (Nat×Value)}{A:World→Prop}{dd:Option Nat}{t tr:TypeId}{pos:String}{af:Array Edge}{g:Option (Nat×Bool)}{parts:Array (Nat×Operand)}{us:List (Nat×Value)}{ucs:List (Nat×List Value)}{z cs:List Value}{pl:List (Nat×Nat)}(hs:shapeOf P t=some (z,pl))(hp:parts.toList.map (fun q=>q.1)=us.map (·.1))(he:evs σ (parts.toList.map (·.2))=some (us.map (·.2)))(ca:CA us ucs)(hf:Z5D pl z ucs=some cs):Val P n σ A ⟨dd,.build t parts,tr,pos,af,g⟩ (.agg cs.toArray):=by
 intro a w ha hw;have hm:(parts.map fun q=>(q.1,a.eval q.2)).toList=us:=by
  rw[Array.toList_map];have h2:=ha.Z1i he;clear he hf ca;generalize parts.toList=pl at hp h2
  induction pl generalizing us with
  |nil=>cases us with
   |nil=>rfl
   |cons _ _=>simp at hp
  |cons q r ih=>cases us with
   |nil=>simp at hp
   |cons u r'=>
    simp at hp h2;obtain⟨u1,u2⟩:=u;simp at hp h2;simp[hp.1,h2.1];exact ih (by simpa using hp.2) (by simpa using h2.2)
 have:=run_build (P:=P) w t (parts.map fun q=>(q.1,a.eval q.2)) cs.toArray (by rw[hm];exact Zin hs ca hf);simp[execOp,this]
end Go.Q
namespace Go.Q
theorem ZW{x:Int}(h1 : -9223372036854775808≤x)(h2:x<9223372036854775808):IntKind.i64.wrap x=x:=by
 simp only[IntKind.wrap,IntKind.bits,IntKind.signed]
 first|omega|(split<;>omega)|(simp;omega)
theorem Zu(k:Nat)(h:k<4611686018427387904):IntKind.i64.wrap ((k:Int)+1)=((k+1:Nat):Int):=by
 rw[ZW (by omega) (by omega)];omega
theorem Z5i{α:Type}(xs:List α)(k:Nat):elt xs (k:Int)=xs[k]?:=by
 unfold elt;rw[if_pos (by omega)];simp
theorem Zy{α:Type}{xs:List α}{k:Nat}(h:k<xs.length):elt xs (k:Int)=some xs[k]:=by
 rw[Z5i,List.getElem?_eq_getElem h]
theorem Ze{S R:Type}{F:S→Option (S⊕R)}{s t:S}(h:F s=some (.inl t)):Zw F s=Zw F t:=by rw[Z5g,h]
theorem Zf{S R:Type}{F:S→Option (S⊕R)}{s:S}{r:R}(h:F s=some (.inr r)):Zw F s=some r:=by rw[Z5g,h]
theorem TF{S R:Type}{F:S→Option (S⊕R)}{n:Nat}(s:Nat→S)(h:∀k,k<n→F (s k)=some (.inl (s (k+1)))):Zw F (s 0)=Zw F (s n):=by
 have key:∀k,k≤n→Zw F (s 0)=Zw F (s k):=by
  intro k;induction k with
  |zero=>intro _;rfl
  |succ k ih=>intro hk;rw[ih (by omega),Ze (h k (by omega))]
 exact key n (Nat.le_refl _)
theorem Z8L{α β:Type}{l:List α}{x y:Option β}(h:l=[]→x=y):Z8J l x y=y:=by
 cases l with
 |nil=>rw[h rfl];exact Zgd _
 |cons a l=>rfl
theorem take_succ{α:Type}(l:List α)(k:Nat)(h:k<l.length):l.take (k+1)=l.take k ++ [l[k]]:=by
 rw[List.take_add_one,List.getElem?_eq_getElem h];rfl
end Go.Q
namespace Go.Q
open Go.MapKept
def Jw{β:Type}:List (Int×β)→Int→Option β
 | [],_=>none
 |p::r,k=>if p.1=k then some p.2 else Jw r k
def Z2W{β:Type}:List (Int×β)→Int→β→List (Int×β)
 | [],k,v=>[(k,v)]
 |p::r,k,v=>if p.1=k then(k,v)::r else p::Z2W r k v
def Z06{β:Type}(b:Nat)(ik:IntKind)(kv:β→Value)(l:List (Int×β)):HO:=
 ⟨fun _ h=>∃es clock,h b=some (.map es clock)∧es.toList.map (fun e=>(e.key,e.val))=l.map (fun p=>(Value.int ik p.1,kv p.2))∧(∀e∈es.toList,e.born<clock)∧(es.toList.map MapEntry.born).Nodup,
  fun _ _ _ _ _ hb ⟨es,clock,h,r⟩=>⟨es,clock,hb _ _ h,r⟩⟩
theorem Z2o{β:Type}{ik:IntKind}{kv:β→Value}{k:Int}:∀(es:List MapEntry) (l:List (Int×β)) (i:Nat),es.map (fun e=>(e.key,e.val))=l.map (fun p=>(Value.int ik p.1,kv p.2)) →
    (Jw l k=none∧Instr.findNow (.int ik) (.int ik k) es i=some none∧∀v,Z2W l k v=l ++ [(k,v)]) ∨
    ∃j v,Jw l k=some v∧Instr.findNow (.int ik) (.int ik k) es i=some (some (i+j,kv v))∧(∃e,es[j]?=some e∧e.key=.int ik k)∧∀v',Z2W l k v'=l.set j (k,v')
 | [],[],i,_ =>.inl ⟨rfl,rfl,fun _=>rfl⟩
 |e::es,p::l,i,h=>by
  simp only[List.map_cons,List.cons.injEq,Prod.mk.injEq]at h;obtain⟨⟨h1,h2⟩,h3⟩:=h;by_cases hk:p.1=k
  ·refine .inr ⟨0,p.2,by simp[Jw,hk],?_,⟨e,rfl,by rw[h1,hk]⟩,fun v'=>by simp[Z2W,hk]⟩;simp[Instr.findNow,Instr.sameNow,h1,hk,h2]
  ·have hs:Instr.sameNow (.int ik) (.int ik k) e.key=some false:=by simp[Instr.sameNow,h1,Ne.symm hk]
   rcases Z2o (k:=k) es l (i+1) h3 with ⟨a,b,c⟩|⟨j,v,a,b,c,d⟩
   ·exact .inl ⟨by simp[Jw,hk,a],by simp[Instr.findNow,hs,b],fun v=>by simp[Z2W,hk,c]⟩
   ·exact .inr ⟨j+1,v,by simp[Jw,hk,a],by simp[Instr.findNow,hs,b];omega,by simpa using c,fun v'=>by simp[Z2W,hk,d]⟩
 | [],_::_,_,h=>by simp at h
 | _::_,[],_,h=>by simp at h
section
variable{P:Program}{n:Fr}{ρ:Option Nat}{σ:List (Nat×Value)}{w0:World}{hA hV:Hp}{ps:List HP}{os:List HO}{L l:List Oper}{Q:Cont}{d:Nat}{dd:Option Nat}{t tr kt et:TypeId}{x y z:Operand}{pos:String}{af:Array Edge}{g:Option (Nat×Bool)}{β:Type}{kv:β→Value}{ik:IntKind}{m:List (Int×β)}{k:Int}{z0:β}
theorem SP.makeMap(ik:IntKind)(kv:β→Value)(hg:gd L σ g=some true)(hn:Nat.blt d n.n=true)
    (h:∀b,SP P n ρ ((d,.map (some b))::σ) (St w0 hA hV ps (Z06 b ik kv []::os)) L l Q):SP P n ρ σ (St w0 hA hV ps os) L (⟨some d,.makeMap t none,tr,pos,af,g⟩::l) Q:=by
 refine SP.op (fun b =>.map (some b)) (fun b=>St w0 hA hV ps (Z06 b ik kv []::os)) hg rfl hn (fun a w ha hw=>⟨w.heap.size,_,?_,hw.alloc (.map #[] 0) ?_⟩) h
 ·simp[execOp,Instr.makeMap]
 ·exact⟨#[],0,by simp[bk],by simp,by simp,by simp⟩
theorem Val.lookup(see:YG w0 hA hV)(i:Nat){b:Nat}(hi:os[i]?=some (Z06 b ik kv m))(hu:P.underlying t=some (.map kt et))(hk:P.underlying kt=some (.int ik)){cs:List Value}{s bb:Nat}(hz:(P.info? et).map (fun i=>((i.zero.map fun z=>z.cells.toList),i.size,i.bytes))=some (some cs,s,bb))(hzz:(P.info? et).bind (·.zero)=some (kv z0))
    (hx:ev σ x=some (.map (some b))) (hy:ev σ y=some (.int ik k)):Val P n σ (St w0 hA hV ps os) ⟨dd,.lookup t x y false,tr,pos,af,g⟩ (kv ((Jw m k).getD z0)):=fun a w ha hw=>by
 obtain⟨es,clock,hb,hm,-,-⟩:=St.own i hi see.sub see.dj hw;have hb':w.heap[b]?=some (.map es clock):=hb;have hkey:IsKey (.int ik) (.int ik k):=by simp[IsKey]
 have hck:=run_checkKey (P:=P) (w:=w) hk hkey es.isEmpty 9999;have hzv:(zeroValue et).run P w=.ok (kv z0) w:=by
  cases hq:P.info? et with
  |none=>simp[hq]at hzz
  |some ii=>simp[hq]at hzz;simp[zeroValue,typeInfo,hq,hzz]
 have hl:(Instr.lookup t (.map (some b)) (.int ik k) false).run P w=.ok (kv ((Jw m k).getD z0)) w:=by
  rcases Z2o (k:=k) es.toList m 0 hm with ⟨h1,h2,-⟩|⟨j,v,h1,h2,-,-⟩
  ·have hf:=run_findKey (P:=P) (w:=w) hk h2;simp[Instr.lookup,run_underlying hu,MapKept.run_getObj_map (P:=P) hb',hck,hf,hzv,h1]
  ·have hf:=run_findKey (P:=P) (w:=w) hk h2;simp[Instr.lookup,run_underlying hu,MapKept.run_getObj_map (P:=P) hb',hck,hf,h1]
 simp[execOp,ha.eval hx,ha.eval hy,hl]
theorem SP.mapUpdate(see:YG w0 hA hV)(i:Nat){b:Nat}(hi:os[i]?=some (Z06 b ik kv m))(hu:P.underlying t=some (.map kt et))(hk:P.underlying kt=some (.int ik)){u:β}
    (hg:gd L σ g=some true) (hx:ev σ x=some (.map (some b))) (hy:ev σ y=some (.int ik k)) (hz:ev σ z=some (kv u))
    (h:SP P n ρ σ (St w0 hA hV ps (os.set i (Z06 b ik kv (Z2W m k u)))) L l Q):SP P n ρ σ (St w0 hA hV ps os) L (⟨none,.mapUpdate t x y z,tr,pos,af,g⟩::l) Q:=by
 refine SP.act hg rfl (fun a w ha hw=>?_) h;obtain⟨hP,hh,⟨es,clock,hb,hm,hc,hn⟩,sP,sh,ap,back⟩:=hw.at i hi see
 have hb':w.heap[b]?=some (.map es clock):=sh _ _ hb;have hkey:IsKey (.int ik) (.int ik k):=by simp[IsKey]
 have hck:=run_checkKey (P:=P) (w:=w) hk hkey false 9999;have done:∀(es':Array MapEntry) (clock':Nat),(Instr.mapUpdate t (.map (some b)) (.int ik k) (kv u)).run P w=.ok () { w with heap:=w.heap.setIfInBounds b (.map es' clock') } →
     es'.toList.map (fun e=>(e.key,e.val))=(Z2W m k u).map (fun p=>(Value.int ik p.1,kv p.2))→(∀e∈es'.toList,e.born<clock')→(es'.toList.map MapEntry.born).Nodup →
     ∃w',(execOp a.eval ⟨none,.mapUpdate t x y z,tr,pos,af,g⟩).run P w=.ok .skip w'∧St w0 hA hV ps (os.set i (Z06 b ik kv (Z2W m k u))) w':=by
  intro es' clock' hr h1 h2 h3;obtain⟨q1,q2⟩:=heap_set (o' :=.map es' clock') hb';refine⟨{ w with heap:=w.heap.setIfInBounds b (.map es' clock') },by simp[execOp,ha.eval hx,ha.eval hy,ha.eval hz,hr],back { w with heap:=w.heap.setIfInBounds b (.map es' clock') } _ (bk b (.map es' clock')) ⟨rfl,rfl,rfl,by simp⟩ (fun c hc0 hcn=>q2 c fun e=>by subst e;rw[hb]at hcn;cases hcn) ⟨es',clock',by simp[bk],h1,h2,h3⟩ (fun c o e=>?_) (fun c hcn=>?_)⟩
  ·unfold bk at e;split at e
   ·rename_i hcb;subst hcb;simp at e;subst e;exact q1
   ·cases e
  ·unfold bk at hcn;split at hcn
   ·rename_i hcb;subst hcb;exact .inl (by rw[hb];simp)
   ·exact absurd rfl hcn
 rcases Z2o (k:=k) es.toList m 0 hm with ⟨h1,h2,h3⟩|⟨j,v,h1,h2,⟨e,he,hek⟩,h4⟩
 ·have hf:=run_findKey (P:=P) (w:=w) hk h2;refine done (es.push ⟨.int ik k,kv u,clock⟩) (clock+1) ?_ ?_ ?_ ?_
  ·simp[Instr.mapUpdate,run_underlying hu,MapKept.run_getObj_map (P:=P) hb',hck,hf,MapKept.run_setObj_map (P:=P) _ hb']
  ·rw[h3];simp[hm]
  ·intro e he;simp at he;rcases he with he|rfl
   ·have:=hc e (by simpa using he);omega
   ·simp
  ·simp only[Array.toList_push,List.map_append,List.map_cons,List.map_nil];refine List.nodup_append.2 ⟨hn,by simp,fun a ha b hb=>?_⟩;obtain⟨e,he,rfl⟩:=List.mem_map.1 ha;have:=hc e he;simp at hb;omega
 ·have hf:=run_findKey (P:=P) (w:=w) hk h2;have he':es[j]?=some e:=by simpa using he
  refine done (es.modify j fun e=>{ e with key :=.int ik k,val:=kv u }) clock ?_ ?_ ?_ ?_
  ·simp[Instr.mapUpdate,run_underlying hu,MapKept.run_getObj_map (P:=P) hb',hck,hf,MapKept.run_setObj_map (P:=P) _ hb',he',hek,Instr.keyThatStays,Instr.sameBits]
  ·rw[h4,List.map_set,←hm];apply List.ext_getElem?;intro q;simp only[List.getElem?_map,Array.getElem?_toList,Array.getElem?_modify,List.getElem?_set,List.length_map,Array.length_toList];have hj:=Vp he;simp only[Array.length_toList]at hj;by_cases hq:j=q
   ·subst hq;simp[he',hj]
   ·simp[hq]
  ·intro e1 h5;obtain⟨q,h6⟩:=List.getElem?_of_mem h5;rw[Array.getElem?_toList,Array.getElem?_modify]at h6;split at h6
   ·obtain⟨e2,h7,rfl⟩:=Option.map_eq_some_iff.1 h6;exact hc e2 (List.mem_of_getElem? (by simpa using h7))
   ·exact hc e1 (List.mem_of_getElem? (by simpa using h6))
  ·have:(es.modify j fun e=>{ e with key :=.int ik k,val:=kv u }).toList.map MapEntry.born=es.toList.map MapEntry.born:=by
    apply List.ext_getElem?;intro q;simp only[List.getElem?_map,Array.getElem?_toList,Array.getElem?_modify];split
    ·cases es[q]?<;>simp
    ·rfl
   rw[this];exact hn
end
end Go.Q
namespace Go.Q
theorem ZbY{w:World}{r:Nat}{u:Obj}(o:Obj)(h:hp w r=some u):hp (w.putObj r o) r=some o:=World.putObj_heap_same (J4 h)
theorem Z4f{w:World}{r b:Nat}(o:Obj)(h:b≠r):hp (w.putObj r o) b=hp w b:=World.putObj_heap_other h
theorem Met.putObj(w:World)(r:Nat)(o:Obj):Met w (w.putObj r o):=⟨rfl,rfl,rfl,by simp⟩
theorem ZbZ{α:Type}:∀(l:List α) (i:Nat) {x:α},l[i]?=some x→l.set i x=l
 | [],_,_,h=>by simp at h
 |y::ys,0,x,h=>by simp at h;simp[h]
 |y::ys,i+1,x,h=>by simp at h;simp[ZbZ ys i h]
theorem ZdT{α:Type}{l:List α}{i:Nat}{x:α}(y:α)(h:l[i]?=some x):(l.set i y)[i]?=some y:=by
 have:i<l.length:=by
  rcases Nat.lt_or_ge i l.length with g|g
  ·exact g
  ·rw[List.getElem?_eq_none g]at h;cases h
 simp[this]
def mark(r:Nat):Deferred:={ target :=.collected r,args := #[] }
def Marks:List Deferred→Hp→Prop
 | [],_=>True
 |d::ds,h=>∃r h',d=mark r∧h r=some (.deferred (some []))∧Sub h' h∧h' r=none∧Marks ds h'
theorem Marks.mono:∀(ds:List Deferred) {h h':Hp},Sub h h'→Marks ds h→Marks ds h'
 | [],_,_,_,_=>trivial
 | _::ds,_,_,s,⟨r,k,e,q,sk,n,m⟩=>⟨r,k,e,s _ _ q,sk.trans s,n,m⟩
def Uv(ds:List Deferred):HO:=⟨fun _ h=>Marks ds h,fun _ _ _ _ _ sb m=>Marks.mono ds sb m⟩
section
variable{w0 w:World}{hA hV:Hp}{ps:List HP}{os:List HO}
theorem St.ZlG(i:Nat){d:Deferred}{ds:List Deferred}(hi:os[i]?=some (Uv (d::ds)))(h:St w0 hA hV ps os w) :
    ∃r,d=mark r∧w.heap[r]?=some (.deferred (some []))∧St w0 hA hV ps (os.set i (Uv ds)) (w.putObj r (.deferred none)):=by
 have h0:=h;obtain⟨m,f,hN,hO,n1,n2,dd,s1,s2,p,q⟩:=h;obtain⟨h1,h2,e,t1,t2,rr,s⟩:=Sep.take i os hi q;obtain⟨r,h',ed,hr,-,-,-⟩:=rr;refine⟨r,ed,s2 _ _ (t1 _ _ hr),h0.change i hi (Met.putObj _ _ _) fun hP hO hs hx=>?_⟩;obtain⟨r',h'',ed',hr',sb,hn,mk⟩:=hx;have er:r=r':=by
  rw[ed]at ed';simpa[mark]using ed'
 subst er;refine⟨h'',mk,fun b o eb=>?_,fun b hb hz=>?_,fun b o e1 e2=>?_⟩
 ·rw[Z4f]
  ·exact hs _ _ (sb _ _ eb)
  ·intro e;subst e;rw[hn]at eb;cases eb
 ·cases e:h'' b with
  |none=>exact hb e
  |some u=>rw[sb _ _ e]at hz;cases hz
 ·rw[Z4f]
  ·exact e1
  ·intro e;subst e;rw[hr']at e2;cases e2
theorem ZdU{P:Program}{F:Fence}{fn:Func}{tmps:Array Value}{R:Ending→World→Prop}(i:Nat):∀(ds:List Deferred) (os:List HO) (w:World),os[i]?=some (Uv ds)→St w0 hA hV ps os w →
    (∀w',St w0 hA hV ps (os.set i (Uv [])) w'→LeavesIn F 0 P fn tmps R [] .returning w')→LeavesInM F 0 P fn tmps R ds .returning w
 | [],os,w,hi,hw,k=>k w (by rw[ZbZ _ _ hi];exact hw)
 |d::ds,os,w,hi,hw,k=>by
  obtain⟨r,rfl,hr,h2⟩:=hw.ZlG i hi;exact⟨(by intro e;cases e),.inl ⟨r,_,rfl,run_takeDeferred hr,ZdU i ds _ _ (ZdT _ hi) h2 (fun w' hw'=>k w' (by simpa[List.set_set]using hw'))⟩⟩
variable{P:Program}{n:Fr}{ρ:Option Nat}{σ σ1:List (Nat×Value)}{Q:Cont}
theorem QE.ZeO{fn:Func}{rs:List ResultVar}{vs:List Value}{R:Ending→World→Prop}(i:Nat)(hi:os[i]?=some (Uv n.ds))(hr:fn.results=rs.toArray)(hv:Xp P n σ (St w0 hA hV ps (os.set i (Uv []))) rs vs)
    (h:∀w,St w0 hA hV ps (os.set i (Uv [])) w→R (.returned (single vs)) w):QE n σ (St w0 hA hV ps os) (bodyPostM (FF none) 0 P fn R) .ret:=fun a w ha hw=>by
 show LeavesInM (FF none) 0 P fn a.tmps R a.defers .returning w;rw[ha.2.1];exact ZdU i n.ds os w hi hw fun w' hw'=>⟨single vs,Xp.told hr ha hw' hv,h w' hw'⟩
theorem XL.ofM{f:FuncId}{fn:Func}{c:Code}{args:List Value}{K:Value→HO}(hf:P.funcs[f]?=some fn)(hb:fn.body=some c)(hn:fn.ntmps=n.n∧n.ds=[])(ha:Nat.ble args.length n.n=true)
    (h0:St w0 hA hV ps os w0)
    (h:CP P n none (slots 0 args) (St w0 hA hV ps (Uv n.ds::os)) c (bodyPostM (FF none) 0 P fn fun e w'=>∃v,e=.returned v∧Since w0 hA hV (K v).p w')):XL P f args.toArray hA hV w0 K:=by
 refine callsIn_wide.1 (callsIn_of_wp_marks (F:=FF none) (n:=0) hf hb trivial (h _ _ (Env.enter hn ha) ?_));rw[hn.2];exact h0.Tc (x:=Uv []) fun _=>trivial
def Z1X(l:Nat)(n:Nat)(σ:List (Nat×Value))(pt:Array Tmp)(aq body:Code)(st:LoopState)(pe:Option Code):HO:=
 ⟨fun _ h=>∃r:Loop,h l=some (.loop r)∧r.state=st∧r.pending=pe∧r.params=pt∧r.assign=aq∧r.body=body∧Env ⟨n,[]⟩ σ { tmps:=r.tmps,defers:=[] },
  fun _ _ _ _ _ sb ⟨r,e,x⟩=>⟨r,sb _ _ e,x⟩⟩
theorem St.Zge(i:Nat){l m:Nat}{τ:List (Nat×Value)}{pt:Array Tmp}{aq body:Code}{st:LoopState}{pe:Option Code}(hi:os[i]?=some (Z1X l m τ pt aq body st pe))(h:St w0 hA hV ps os w) :
    ∃r:Loop,w.heap[l]?=some (.loop r)∧r.state=st∧r.pending=pe∧∀st' pe',St w0 hA hV ps (os.set i (Z1X l m τ pt aq body st' pe')) (w.putObj l (.loop { r with state:=st',pending:=pe' })):=by
 have h0:=h;obtain⟨m,f,hN,hO,n1,n2,dd,s1,s2,p,q⟩:=h;obtain⟨h1,h2,e,t1,t2,rr,s⟩:=Sep.take i os hi q;obtain⟨r,hr,e1,e2,e3⟩:=rr;refine⟨r,s2 _ _ (t1 _ _ hr),e1,e2,fun st' pe'=>h0.change i hi (Met.putObj _ _ _) fun hP hO hs hx=>?_⟩;obtain⟨r',hr',-⟩:=hx;refine⟨bk l (.loop { r with state:=st',pending:=pe' }),⟨{ r with state:=st',pending:=pe' },by simp[bk],rfl,rfl,e3⟩,fun b o eb=>?_,fun b hb hz=>?_,fun b o e1 e2=>?_⟩
 ·unfold bk at eb;split at eb
  ·rename_i hb;subst hb;simp at eb;subst eb;exact ZbY _ (hs _ _ hr')
  ·cases eb
 ·unfold bk at hb;split at hb
  ·rename_i e;subst e;rw[hr']at hz;cases hz
  ·exact hb rfl
 ·rw[Z4f]
  ·exact e1
  ·intro e;subst e;rw[hr']at e2;cases e2
def Z4g:List (Nat×Value)→List (Nat×Value)→List (Nat×Value)
 | [],σ=>σ
 |p::r,σ=>Z4g r (p::σ)
theorem Env.Z4g{m:Nat}:∀(l:List (Nat×Value)) {σ:List (Nat×Value)} {tm:Array Value},(l.all fun p=>Nat.blt p.1 m)=true→Env ⟨m,[]⟩ σ { tmps:=tm,defers:=[] } →
    Env ⟨m,[]⟩ (Go.Q.Z4g l σ) { tmps:=l.foldl (fun tmps p=>tmps.setIfInBounds p.1 p.2) tm,defers:=[] }
 | [],_,_,_,h=>h
 |(t,v)::r,σ,tm,hl,h=>by
  simp only[List.all_cons,Bool.and_eq_true]at hl;have:=h.put (d:=t) v (by simpa using hl.1);exact Env.Z4g r hl.2 this
theorem Round.of{l m:Nat}{pt:List Tmp}{aq body:Code}{vals:List Value}{X:HO}{h1 hP:Hp}{R:Ending→World→Prop}(hs:Z4g (pt.zip vals) σ=σ1)(hlen:vals.length=pt.length)(hlt:((pt.zip vals).all fun p=>Nat.blt p.1 m)=true)
    (hh:(HO.and (Z1X l m σ pt.toArray aq body .ready none) X).p hP h1) (sub:Sub h1 (hp w)) (ap:All ps hP)
    (h:CP P ⟨m,[]⟩ (some l) σ1 (St w h1 hP ps [Z1X l m σ pt.toArray aq body .ready none,X]) aq (Exit.then (fun a w2=>∃w3,(Instr.beginRound l).run P w2=.ok () w3∧body.wpIn (FF (some l)) 0 P (roundPost P l R) a w3) (fun _ _ _=>False))) :
    ∃fn tmps aq' body',(Instr.yield l vals.toArray).run P w=.ok (.round l fn tmps aq' body') w∧RoundIn (FF none) 0 P l fn tmps aq' body' w R:=by
 obtain⟨k1,k2,dj,t1,t2,p,q⟩:=hh;obtain⟨r,hr,e1,e2,e3,e4,e5,e6⟩:=id p;have hst:St w h1 hP ps [Z1X l m σ pt.toArray aq body .ready none,X] w:=
  St.K6 sub ap ⟨k1,k2,dj,t1,t2,p,k2,em,Dj.WM _,Sub.refl _,Sub.em _,q,trivial⟩
 have hy:=run_yield (P:=P) (args:=vals.toArray) (w:=w) (sub _ _ (t1 _ _ hr)) (by rw[e3];simpa using hlen);refine⟨_,_,_,_,hy,?_⟩;have htm:((r.params.zip vals.toArray).foldl (fun tmps (t,a)=>tmps.setIfInBounds t a) r.tmps)=(pt.zip vals).foldl (fun tmps p=>tmps.setIfInBounds p.1 p.2) r.tmps:=by
  rw[e3];simp
 rw[e4,e5,htm];refine roundIn_of_wpIn (F:=FF none) trivial (h _ _ ?_ hst);rw[←hs];exact Env.Z4g _ hlt e6
def Yields(P:Program){S X:Type}(l:Nat)(hV:Hp)(Y:S→X→Option (S×Bool))(I:S→HO)(E:X→List Value→HP):Prop:=
 ∀s x t b vals,Y s x=some (t,b)→∀w hP h1,Sub hV hP→Sub hP (hp w)→Sub h1 (hp w)→Dj hP h1→(E x vals).p hP→(I s).p hP h1 →
  ∃fn tmps aq body,(Instr.yield l vals.toArray).run P w=.ok (.round l fn tmps aq body) w∧RoundIn (FF none) 0 P l fn tmps aq body w (fun e w'=>∃v,e=.returned v∧Since w h1 hP (HO.Yr (v=.bool b) (I t)).p w')
theorem St.split{X:HO}(hw:St w0 hA hV ps (X::os) w)(see:YG w0 hA hV) :
    ∃hP h1,Sub hV hP∧Sub hP (hp w)∧Sub h1 (hp w)∧Dj hP h1∧All ps hP∧X.p hP h1∧∀(K:HO) w',Since w h1 hP K.p w'→St w0 hA hV ps (K::os) w':=by
 obtain⟨m,fr,hN,hO,n1,n2,dj,s1,s2,p,h1,h2,d12,t1,t2,r,q⟩:=id hw;have sub:Sub (un hV hN) (hp w):=Sub.Vl (fun b o e=>fr b o (see.sub b o e) (by
  rcases see.dj b with k|k
  ·rw[e]at k;cases k
  ·exact k)) s1
 have dV:Dj hV h1:=fun b=>by
  cases e:hV b with
  |none=>exact .inl rfl
  |some o=>
   refine .inr ?_;cases e2:h1 b with
   |none=>rfl
   |some u=>have:=t1 _ _ e2;rw[n2 b (J4 (see.sub _ _ e)) ((see.dj b).resolve_left (by rw[e];simp))]at this;cases this
 refine⟨un hV hN,h1,Sub.Xe _ _,sub,t1.trans s2,Dj.Xe dV (dj.sub (Sub.refl _) t1),p,r,fun K w' hs=>?_⟩;obtain⟨m',fr',hN',hO',n1',n2',dj',s1',s2',k⟩:=hs;have old:∀b,b<w0.heap.size→hA b=none→h1 b=none:=fun b hb ha=>by
  cases e:h1 b with
  |none=>rfl
  |some o=>have:=t1 _ _ e;rw[n2 b hb ha]at this;cases this
 have Zij:∀b,b<w0.heap.size→hA b=none→h2 b=none:=fun b hb ha=>by
  cases e:h2 b with
  |none=>rfl
  |some o=>have:=t2 _ _ e;rw[n2 b hb ha]at this;cases this
 have dN:Dj hN h1:=dj.sub (Sub.refl _) t1;have keep:∀z:Hp,Sub z (hp w)→Dj z h1→Sub z (hp w'):=fun z hz dz b o e=>fr' b o (hz b o e) ((dz b).resolve_left (by rw[e];simp));have djn:∀z y:Hp,Sub z (hp w)→Dj z h1→(∀b,b<w.heap.size→h1 b=none→y b=none)→Dj z y:=fun z y hz dz hy b=>by
  cases e:z b with
  |none=>exact .inl rfl
  |some o=>exact .inr (hy b (J4 (hz _ _ e)) ((dz b).resolve_left (by rw[e];simp)))
 refine⟨m.trans m',fun b o e1 e2=>fr' b o (fr b o e1 e2) (old b (J4 e1) e2),un hN hN',un hO' h2,fun b hb h3=>by simp[un,n1 b hb h3,n1' b (Nat.lt_of_lt_of_le hb m.size) (old b hb h3)],fun b hb h3=>by simp[un,n2' b (Nat.lt_of_lt_of_le hb m.size) (old b hb h3),Zij b hb h3],?_,Sub.Vl (keep _ s1 dN) s1',Sub.Vl s2' (keep _ (t2.trans s2) d12.symm),?_,?_⟩
 ·exact Dj.Xe (Dj.YH (djn _ _ s1 dN n2') (dj.sub (Sub.refl _) t2)) (Dj.YH dj' (djn _ _ (t2.trans s2) d12.symm n1').symm)
 ·rw[←Z2T];exact p.mono (Sub.Xe _ _)
 ·have d2:Dj hO' h2:=(djn _ _ (t2.trans s2) d12.symm n2').symm;rw[←Z2T];exact⟨hO',h2,d2,Sub.Xe _ _,Sub.YH d2,k,Sep.mono os (Sub.Xe _ _) (Sub.refl _) q⟩
theorem SP.Zp3{S X:Type}{Y:S→X→Option (S×Bool)}{I:S→HO}{E:X→List Value→HP}{lp:Nat}{s t:S}{x:X}{b:Bool}{vals:List Value}{L l:List Oper}{d:Nat}{tr:TypeId}{fo:Operand}{pos:String}{af:Array Edge}{g:Option (Nat×Bool)}{aq:Array Operand}{ats:Array TypeId}
    (see:YG w0 hA hV) (hY:Yields P lp hV Y I E) (hy:Y s x=some (t,b)) (hg:gd L σ g=some true) (hn:Nat.blt d n.n=true) (hx:ev σ fo=some (.func (.yield lp) #[] #[])) (has:evs σ aq.toList=some vals)
    (hE:∀hP,All ps hP→(E x vals).p hP) (h:SP P n ρ ((d,.bool b)::σ) (St w0 hA hV ps (I t::os)) L l Q) :
    SP P n ρ σ (St w0 hA hV ps (I s::os)) L (⟨some d,.call ⟨.value fo,aq,ats⟩,tr,pos,af,g⟩::l) Q:=fun a w ha hw=>by
 obtain⟨hP,h1,sV,sP,s1,dj,ap,hi,back⟩:=hw.split see;obtain⟨fn,tmps,aq',body',hyl,hR⟩:=hY s x t b vals hy w hP h1 sV sP s1 dj (hE _ ap) hi;unfold wpListIn;rw[if_pos (ha.wanted hg)];have hm:aq.map a.eval=vals.toArray:=by rw[←Array.toArray_toList (xs:=aq.map a.eval),Array.toList_map,ha.Z1i has]
 have hr:(execOp a.eval ⟨some d,.call ⟨.value fo,aq,ats⟩,tr,pos,af,g⟩).run P w=.ok (.round lp fn tmps aq' body') w:=by
  simp[execOp,resolve,ha.eval hx,Deferred.ofValue,invoke,hm,hyl]
 refine⟨fun _ _=>trivial,?_⟩;rw[TP hr (fun d e=>by cases e),Oper.uponIn_round];refine⟨fun h=>(by cases h),RoundIn.mono hR fun e w' he=>?_⟩;obtain⟨v,rfl,hs⟩:=he;have h2:=back _ _ hs;obtain⟨rfl,h3⟩:=St.Yr h2;exact h _ _ (ha.put (.bool b) (by simpa using hn)) h3
theorem Marks.cons{D:Nat}{ds:List Deferred}{h1 h2:Hp}(q:h1 D=some (.deferred (some [])))(m:Marks ds h2)(dj:Dj h1 h2):Marks (mark D::ds) (un h1 h2):=
 ⟨D,h2,rfl,by simp[un,q],Sub.YH dj,(dj D).resolve_left (by rw[q];simp),m⟩
def ZlH(D:Nat):HO:=⟨fun _ h=>h D=some (.deferred (some [])),fun _ _ _ _ _ sb e=>sb _ _ e⟩
end
end Go.Q
namespace Go.Q
open Go.MapKept
def Uw{S R:Type}(F:S→Option (List S⊕R)):Nat→S→R→Prop
 | 0,_,_=>False
 |n+1,s,r=>match F s with
  |none=>False
  |some (.inl l)=>l≠[]∧∀t∈l,Uw F n t r
  |some (.inr r')=>r'=r
def ZeP{S R:Type}(F:S→Option (List S⊕R))(n:Nat)(r:R):List S⊕R→Prop
 | .inl l=>l≠[]∧∀t∈l,Uw F n t r
 | .inr r'=>r'=r
theorem ZaO{S R:Type}{F:S→Option (List S⊕R)}:∀(n m:Nat) (s:S) (r r':R),Uw F n s r→Uw F m s r'→r=r'
 | 0,_,_,_,_,h,_=>h.elim
 | _+1,0,_,_,_,_,h=>h.elim
 |n+1,m+1,s,r,r',h,k=>by
  simp only[Uw]at h k;cases hF:F s with
  |none=>rw[hF]at h;exact h.elim
  |some o=>
   rw[hF]at h k;cases o with
   |inl l=>
    obtain⟨h1,h2⟩:=h;obtain⟨t,ht⟩:=List.exists_mem_of_ne_nil _ h1;exact ZaO n m t r r' (h2 t ht) (k.2 t ht)
   |inr r2=>exact(show r2=r from h).symm.trans k
open Classical in
noncomputable def Z2p{S R:Type}(F:S→Option (List S⊕R))(s:S):Option R:=
 if h:∃p:Nat×R,Uw F p.1 s p.2 then some (Classical.choose h).2 else none
theorem Z2X{S R:Type}{F:S→Option (List S⊕R)}{s:S}{r:R}:Z2p F s=some r↔∃n,Uw F n s r:=by
 unfold Z2p;constructor
 ·intro h;split at h
  ·rename_i hx
   simp at h;subst h;exact⟨_,Classical.choose_spec hx⟩
  ·simp at h
 ·rintro⟨n,h⟩;have hx:∃p:Nat×R,Uw F p.1 s p.2:=⟨(n,r),h⟩
  rw[dif_pos hx];exact congrArg some (ZaO _ _ _ _ _ (Classical.choose_spec hx) h)
theorem Z0v{S R:Type}{F:S→Option (List S⊕R)}{n:Nat}{s:S}{r:R}(h:Uw F n s r):∃m o,m+1=n∧F s=some o∧ZeP F m r o:=by
 cases n with
 |zero=>exact h.elim
 |succ n=>
  simp only[Uw]at h;cases hF:F s with
  |none=>rw[hF]at h;exact h.elim
  |some o=>exact⟨n,o,rfl,rfl,by rw[hF]at h;cases o<;>exact h⟩
theorem Jd{S R:Type}{F:S→Option (List S⊕R)}{n:Nat}{t:S}{r:R}(h:ZeP F n r (.inl [t])):Uw F n t r:=h.2 t (by simp)
theorem Z56{S R:Type}{F:S→Option (List S⊕R)}:∀(n m:Nat) (s:S) (r:R),n≤m→Uw F n s r→Uw F m s r
 | 0,_,_,_,_,h=>h.elim
 |n+1,0,_,_,h,_=>by omega
 |n+1,m+1,s,r,hm,h=>by
  simp only[Uw]at h ⊢;cases hF:F s with
  |none=>rw[hF]at h;exact h.elim
  |some o=>
   rw[hF]at h;cases o with
   |inl l=>exact⟨h.1,fun t ht=>Z56 n m t r (by omega) (h.2 t ht)⟩
   |inr r'=>exact h
theorem JV{S R:Type}{F:S→Option (List S⊕R)}{s t:S}{r:R}(h:F s=some (.inl [t]))(k:Z2p F t=some r):Z2p F s=some r:=by
 obtain⟨n,hn⟩:=Z2X.1 k;exact Z2X.2 ⟨n+1,by simp only[Uw,h];exact⟨by simp,by simpa using hn⟩⟩
theorem Z8b{S R:Type}{F:S→Option (List S⊕R)}{s:S}{r:R}(h:F s=some (.inr r)):Z2p F s=some r:=
 Z2X.2 ⟨1,by simp[Uw,h]⟩
theorem Zio{S R:Type}{F:S→Option (List S⊕R)}{s:S}{l:List S}{r:R}(h:F s=some (.inl l))(h0:l≠[])(k:∀t∈l,Z2p F t=some r):Z2p F s=some r:=by
 have:∃n,∀t∈l,Uw F n t r:=by
  clear h h0;induction l with
  |nil=>exact⟨0,by simp⟩
  |cons x l ih=>
   obtain⟨n,hn⟩:=ih fun t ht=>k t (List.mem_cons_of_mem _ ht);obtain⟨m,hm⟩:=Z2X.1 (k x (by simp));exact⟨max n m,fun t ht=>by
    rcases List.mem_cons.1 ht with rfl|ht
    ·exact Z56 _ _ _ _ (Nat.le_max_right _ _) hm
    ·exact Z56 _ _ _ _ (Nat.le_max_left _ _) (hn t ht)⟩
 obtain⟨n,hn⟩:=this;exact Z2X.2 ⟨n+1,by simp only[Uw,h];exact⟨h0,hn⟩⟩
def K7{β:Type}(r b:Nat)(ik:IntKind)(kv:β→Value)(m left:List (Int×β))(cur:Option (Int×β)):HO:=
 ⟨fun _ h=>∃es clock since seen c0,h b=some (.map es clock)∧h r=some (.mapIter (some b) since seen c0)∧es.toList.map (fun e=>(e.key,e.val))=m.map (fun p=>(Value.int ik p.1,kv p.2))∧(∀e∈es.toList,e.born<clock)∧(es.toList.map MapEntry.born).Nodup ∧
     (∀e∈es.toList,e.born<since)∧since≤c0∧since≤clock∧(leftOf es seen).toList.map (fun e=>(e.key,e.val))=left.map (fun p=>(Value.int ik p.1,kv p.2)) ∧
     ∀p,cur=some p→c0=clock∧∃e∈es.toList,seen.back?=some e.born∧e.key=.int ik p.1∧e.val=kv p.2,
  fun _ _ _ _ _ hb ⟨es,clock,since,seen,c0,h1,h2,r⟩=>⟨es,clock,since,seen,c0,hb _ _ h1,hb _ _ h2,r⟩⟩
theorem run_next_at{P:Program}(w:World)(ty:TypeId)(bm r since c0:Nat)(seen:Array Nat)(es:Array MapEntry)(clock:Nat)(hb:w.heap[bm]?=some (.map es clock))(hr:w.heap[r]?=some (.mapIter (some bm) since seen c0))(hold:∀x∈es.toList,x.born<since)(hsc:since≤c0) :
    ((leftOf es seen).size=0∧(Instr.next (.pointer (some ⟨r,0,none⟩)) false ty).run P w=.ok (.tuple #[.bool false]) w) ∨
    ∃(j:Nat) (e:MapEntry) (k:Nat),(leftOf es seen)[j]?=some e∧(Instr.next (.pointer (some ⟨r,0,none⟩)) false ty).run P w=.ok (.tuple #[.bool true,e.key,e.val]) ({ w with drawn:=k }.putObj r (.mapIter (some bm) since (seen.push e.born) clock)):=by
 simp only[Instr.next,getObj,Sem.run_bind,Sem.run,hr,hb,Result.andThen,next_test_false seen es since c0 hold hsc,Bool.false_eq_true,if_false];unfold leftOf;have hmem:∀x∈(Array.filter (fun e => !seen.contains e.born) es).toList,x.born<since:=fun x hx=>hold x (by simp at hx ⊢;exact hx.1);generalize Array.filter (fun e => !seen.contains e.born) es=L at hmem ⊢
 have e1:L.filter (fun x=>decide (x.born<since))=L:=Array.filter_eq_self.2 (fun x hx=>by simpa using hmem x (by simpa using hx));have e2:L.filter (fun x=>decide (x.born≥since)) = #[]:=by
  rw[Array.filter_eq_empty_iff];intro x hx;have:=hmem x (by simpa using hx);simp;omega
 simp only[e1,e2,Array.append_empty];by_cases h0:L.size=0
 ·left;have:L = #[]:=Array.eq_empty_of_size_eq_zero h0;subst this;refine⟨rfl,?_⟩;simp[choose,Sem.run,Question.forced]
 ·right;have hne:L.isEmpty=false:=by simp[Array.isEmpty,h0]
  simp only[hne,Bool.false_eq_true,if_false,Array.empty_append,Array.size_map];have hch:∃(j:Nat) (k:Nat),j<L.size∧(choose (Question.mapNext L.size)).run P w=.ok j { w with drawn:=k }:=by
   by_cases hf:L.size≤1
   ·exact⟨0,w.drawn,by omega,by simp[choose,Sem.run,Question.forced,hf]⟩
   ·exact⟨_,_,Nat.mod_lt _ (by omega),by
     simp only[choose,Sem.run,Question.forced,decide_eq_true_eq,hf,if_false,Question.cut];rfl⟩
  obtain⟨j,k,hj,hrun⟩:=hch;refine⟨j,L[j],k,by simp[hj],?_⟩;have hset:∀(o':Obj),(setObj r o').run P { w with drawn:=k }=.ok () ({ w with drawn:=k }.putObj r o'):=fun o'=>by
   simp[setObj,Sem.run,hr,World.putObj]
  simp only[hrun,Array.getElem?_map,Array.getElem?_eq_getElem hj,Option.map_some,Sem.run_bind,hset,Result.andThen];rfl
theorem filter_push{seen:Array Nat}:∀{es:List MapEntry} {j:Nat} {e:MapEntry},(es.map MapEntry.born).Nodup→(es.filter fun e => !seen.contains e.born)[j]?=some e →
    (es.filter fun x => !(seen.push e.born).contains x.born)=(es.filter fun e => !seen.contains e.born).eraseIdx j
 | [],j,e,_,h=>by simp at h
 |x::es,j,e,hn,h=>by
  simp only[List.map_cons,List.nodup_cons]at hn;simp only[List.filter_cons]at h ⊢;by_cases hx:seen.contains x.born=true
  ·simp only[contains_push,hx,Bool.true_or,Bool.not_true,Bool.false_eq_true,if_false]at h ⊢;have:=filter_push hn.2 h;simp only[contains_push]at this;exact this
  ·have hx':=Bool.eq_false_iff.2 hx;simp only[hx',Bool.not_false,if_true]at h ⊢;cases j with
   |zero=>
    simp at h;subst h;simp only[contains_push,hx',Bool.false_or,beq_self_eq_true,Bool.not_true,Bool.false_eq_true,if_false,List.eraseIdx_cons_zero];refine List.filter_congr fun y hy=>?_;have hyx:(y.born==x.born)=false:=by
     cases hc:y.born==x.born with
     |false=>rfl
     |true=>exact absurd (by rw[←beq_iff_eq.1 hc];exact List.mem_map.2 ⟨y,hy,rfl⟩) hn.1
    simp[hyx]
   |succ j=>
    simp only[List.getElem?_cons_succ]at h;have hxe:(x.born==e.born)=false:=by
     cases hc:x.born==e.born with
     |false=>rfl
     |true=>
      have:=List.mem_of_getElem? h;exact absurd (by rw[beq_iff_eq.1 hc];exact List.mem_map.2 ⟨e,(List.mem_filter.1 this).1,rfl⟩) hn.1
    simp only[contains_push,hx',hxe,Bool.or_false,Bool.not_false,if_true,List.eraseIdx_cons_succ];congr 1;have:=filter_push hn.2 h;simp only[contains_push]at this;exact this
theorem J6{α β:Type}(f:α→β):∀(l:List α) (j:Nat),(l.eraseIdx j).map f=(l.map f).eraseIdx j
 | [],_=>rfl
 | _::_,0=>rfl
 |x::l,j+1=>by simp[J6 f l j]
section
variable{P:Program}{n:Fr}{ρ:Option Nat}{σ:List (Nat×Value)}{w0:World}{hA hV:Hp}{ps:List HP}{os:List HO}{L l:List Oper}{Q:Cont}{d:Nat}{t tr kt et:TypeId}{x:Operand}{pos:String}{af:Array Edge}{g:Option (Nat×Bool)}{β:Type}{kv:β→Value}{ik:IntKind}{m left:List (Int×β)}{b r:Nat}{cur:Option (Int×β)}
theorem SP.range(see:YG w0 hA hV)(hu:P.underlying t=some (.map kt et))(hg:gd L σ g=some true)(hn:Nat.blt d n.n=true)(hx:ev σ x=some (.map (some b)))
    (h:∀r,SP P n ρ ((d,.pointer (some ⟨r,0,none⟩))::σ) (St w0 hA hV ps (K7 r b ik kv m m none::os)) L l Q):SP P n ρ σ (St w0 hA hV ps (Z06 b ik kv m::os)) L (⟨some d,.range t x,tr,pos,af,g⟩::l) Q:=by
 refine SP.op (fun r =>.pointer (some ⟨r,0,none⟩)) (fun r=>St w0 hA hV ps (K7 r b ik kv m m none::os)) hg rfl hn (fun a w ha hw=>?_) h;obtain⟨es,clock,hb,hm,hc,hnd⟩:=St.own 0 rfl see.sub see.dj hw;refine⟨w.heap.size,w.alloc (.mapIter (some b) clock #[] clock),?_,?_⟩
 ·simp[execOp,ha.eval hx,run_range_map w t kt et b es clock hu hb]
 have h1:=hw.alloc (x:=⟨fun _ h=>h w.heap.size=some (.mapIter (some b) clock #[] clock),fun _ _ _ _ _ sb e=>sb _ _ e⟩) (.mapIter (some b) clock #[] clock) (by simp[bk]);have h0:=hw;obtain⟨m0,f,hN,hO,n1,n2,dj,s1,s2,p,k1,k2,dj2,t1,t2,q1,q2⟩:=h1;obtain⟨k3,k4,dj3,t3,t4,q3,q4⟩:=q2;obtain⟨es',clock',hb',hm',hc',hnd'⟩:=q3;have hh:(w.alloc (.mapIter (some b) clock #[] clock)).heap[b]?=some (.map es' clock'):=s2 _ _ (t2 _ _ (t3 _ _ hb'));have hbs:b<w.heap.size:=J4 hb;rw[heap_alloc_old w _ hbs]at hh;have hb2:w.heap[b]?=some (.map es clock):=hb;rw[hb2]at hh;obtain⟨rfl,rfl⟩:es=es'∧clock=clock':=by simpa using hh
 refine⟨m0,f,hN,hO,n1,n2,dj,s1,s2,p,un k1 k3,k4,Dj.Xe (dj2.sub (Sub.refl _) t4) dj3,Sub.Vl t1 (t3.trans t2),t4.trans t2,⟨es,clock,clock,#[],clock,Sub.YH (dj2.sub (Sub.refl _) t3) _ _ hb',Sub.Xe _ _ _ _ q1,hm,hc,hnd,hc,Nat.le_refl _,Nat.le_refl _,?_,fun p e=>by cases e⟩,q4⟩;have:leftOf es #[]=es:=by
  unfold leftOf;rw[Array.filter_eq_self];intro a _;simp
 rw[this];exact hm
theorem SP.next(see:YG w0 hA hV)(i:Nat)(hi:os[i]?=some (K7 r b ik kv m left cur))(hg:gd L σ g=some true)(hn:Nat.blt d n.n=true)(hx:ev σ x=some (.pointer (some ⟨r,0,none⟩)))
    (hdone:left=[]→SP P n ρ ((d,.tuple #[.bool false])::σ) (St w0 hA hV ps os) L l Q)
    (hstep:∀j k v,left[j]?=some (k,v)→SP P n ρ ((d,.tuple #[.bool true,.int ik k,kv v])::σ) (St w0 hA hV ps (os.set i (K7 r b ik kv m (left.eraseIdx j) (some (k,v))))) L l Q) :
    SP P n ρ σ (St w0 hA hV ps os) L (⟨some d,.next x false,tr,pos,af,g⟩::l) Q:=fun a w ha hw=>by
 obtain⟨es,clock,since,seen,c0,hb,hr,hm,hc,hnd,hold,hsc,hsk,hl,hcur⟩:=St.own i hi see.sub see.dj hw;unfold wpListIn;rw[if_pos (ha.wanted hg)];refine⟨fun _ _=>trivial,?_⟩;rcases run_next_at (P:=P) w tr b r since c0 seen es clock hb hr hold hsc with ⟨h1,h2⟩|⟨j,e,k,h1,h2⟩
 ·have hle:left=[]:=by
   have:(leftOf es seen).toList=[]:=by rw[Array.eq_empty_of_size_eq_zero h1]
   rw[this]at hl;simpa using hl.symm
  have he:(execOp a.eval ⟨some d,.next x false,tr,pos,af,g⟩).run P w=.ok (.value (.tuple #[.bool false])) w:=by simp[execOp,ha.eval hx,h2]
  rw[TP he (fun d e=>by cases e),Oper.uponIn_value];exact hdone hle _ _ (ha.put _ (by simpa using hn)) hw
 ·have h1':(leftOf es seen).toList[j]?=some e:=by simpa using h1
  obtain⟨p,hlj,hpe⟩:∃p,left[j]?=some p∧(e.key,e.val)=(Value.int ik p.1,kv p.2):=by
   have:((leftOf es seen).toList.map (fun e=>(e.key,e.val)))[j]?=some (e.key,e.val):=by simp[h1]
   rw[hl]at this;simp only[List.getElem?_map,Option.map_eq_some_iff]at this;obtain⟨p,h3,h4⟩:=this;exact⟨p,h3,h4.symm⟩
  obtain⟨pk,pv⟩:=p;simp only[Prod.mk.injEq]at hpe;have he:(execOp a.eval ⟨some d,.next x false,tr,pos,af,g⟩).run P w=.ok (.value (.tuple #[.bool true,.int ik pk,kv pv])) ({ w with drawn:=k }.putObj r (.mapIter (some b) since (seen.push e.born) clock)):=by simp[execOp,ha.eval hx,h2,hpe.1,hpe.2]
  rw[TP he (fun d e=>by cases e),Oper.uponIn_value];refine hstep j pk pv hlj _ _ (ha.put _ (by simpa using hn)) ?_;refine(hw.drawn k).change i hi (Met.putObj _ _ _) fun hP hO hs hx=>?_;obtain⟨es',clock',since',seen',c0',hb',hr',hm',hc',hnd',hold',ZAP,ZAQ,hl',Zyy⟩:=hx;have e1:w.heap[b]?=some (.map es' clock'):=hs _ _ hb';have e2:w.heap[r]?=some (.mapIter (some b) since' seen' c0'):=hs _ _ hr';have e3:w.heap[b]?=some (.map es clock):=hb;have e4:w.heap[r]?=some (.mapIter (some b) since seen c0):=hr;rw[e3]at e1;rw[e4]at e2;obtain⟨rfl,rfl⟩:es=es'∧clock=clock':=by simpa using e1
  obtain⟨rfl,rfl,rfl⟩:since=since'∧seen=seen'∧c0=c0':=by simpa using e2
  have hbr:b≠r:=fun e=>by subst e;rw[hb']at hr';cases hr'
  have hne:∀c,c≠r→hp ({ w with drawn:=k }.putObj r (.mapIter (some b) since (seen.push e.born) clock)) c=hp w c:=fun c h=>World.putObj_heap_other h;have heq:hp ({ w with drawn:=k }.putObj r (.mapIter (some b) since (seen.push e.born) clock)) r=some (.mapIter (some b) since (seen.push e.born) clock):=World.putObj_heap_same (J4 (w:=w) (hs _ _ hr'));refine⟨fun c=>if c=r then some (.mapIter (some b) since (seen.push e.born) clock)else hO c,⟨es,clock,since,seen.push e.born,clock,by simp[hbr,hb'],by simp,hm,hc,hnd,hold,hsk,hsk,?_,fun p ep=>?_⟩,fun c o ec=>?_,fun c hcn hz=>?_,fun c o ec hz=>?_⟩
  ·have hfl:(leftOf es (seen.push e.born)).toList=(leftOf es seen).toList.eraseIdx j:=by
    unfold leftOf at h1' ⊢;rw[Array.toList_filter]at h1' ⊢;rw[Array.toList_filter];exact filter_push hnd h1'
   rw[hfl,J6,hl,J6]
  ·obtain rfl:(pk,pv)=p:=by simpa using ep
   exact⟨rfl,e,(mem_left (es:=es) (seen:=seen) (e:=e) (List.mem_of_getElem? h1')).1,by simp,hpe.1,hpe.2⟩
  ·by_cases h:c=r
   ·subst h;simp at ec;subst ec;exact heq
   ·simp[h]at ec;rw[hne c h];exact hs _ _ ec
  ·by_cases h:c=r
   ·subst h;rw[hr']at hz;cases hz
   ·simp[h]at hcn;exact hcn hz
  ·have h:c≠r:=fun h=>by subst h;rw[hr']at hz;cases hz
   rw[hne c h];exact ec
theorem Val.entry(see:YG w0 hA hV)(i:Nat){p:Int×β}{dd:Option Nat}(hi:os[i]?=some (K7 r b ik kv m left (some p)))(hx:ev σ x=some (.pointer (some ⟨r,0,none⟩))) :
    Val P n σ (St w0 hA hV ps os) ⟨dd,.entry x,tr,pos,af,g⟩ (.tuple #[.int ik p.1,kv p.2]):=fun a w ha hw=>by
 obtain⟨es,clock,since,seen,c0,hb,hr,hm,hc,hnd,hold,hsc,hsk,hl,hcur⟩:=St.own i hi see.sub see.dj hw;obtain⟨rfl,e,he,hbk,hk,hv⟩:=hcur p rfl;have hb':w.heap[b]?=some (.map es c0):=hb;have hr':w.heap[r]?=some (.mapIter (some b) since seen c0):=hr;have hf:es.find? (·.born==e.born)=some e:=by rw[←Array.find?_toList];exact find_born e es.toList hnd he
 have:(Instr.entry (.pointer (some ⟨r,0,none⟩))).run P w=.ok (.tuple #[.int ik p.1,kv p.2]) w:=by
  simp only[Instr.entry,getObj,Sem.run_bind,Sem.run,hr',hb',Result.andThen,hbk,bne_self_eq_false,Bool.false_eq_true,if_false,hf,hk,hv];rfl
 simp[execOp,ha.eval hx,this]
def picks{α:Type}(l:List α):List (α×List α):=(List.range l.length).filterMap fun j=>l[j]?.map fun p=>(p,l.eraseIdx j)
theorem ZaP{α:Type}{l:List α}{j:Nat}{p:α}(h:l[j]?=some p):(p,l.eraseIdx j)∈picks l:=by
 refine List.mem_filterMap.2 ⟨j,?_,by simp[h]⟩;rcases Nat.lt_or_ge j l.length with g|g
 ·exact List.mem_range.2 g
 ·rw[List.getElem?_eq_none g]at h;cases h
theorem Ziq{α:Type}{l:List α}{z:α×List α}(h:z∈picks l):∃j,l[j]?=some z.1∧z.2=l.eraseIdx j:=by
 obtain⟨j,-,h2⟩:=List.mem_filterMap.1 h;cases h3:l[j]? with
 |none=>simp[h3]at h2
 |some p=>simp[h3]at h2;subst h2;exact⟨j,h3,rfl⟩
theorem Zir{α:Type}{l:List α}(h:l≠[]):picks l≠[]:=by
 cases l with
 |nil=>exact absurd rfl h
 |cons x l=>exact List.ne_nil_of_mem (ZaP (l:=x::l) (j:=0) rfl)
end
end Go.Q
namespace Go.Q
def Z0D{α:Type}(b:Nat)(pre:List Value)(f:α→Value)(N:Nat)(xs:List α)(post:List Value)(T:TypeId):HO:=HO.Yr (xs.length=N) (Zl b (pre++(xs.map f++post)) T)
section
variable{P:Program}{n:Fr}{ρ:Option Nat}{σ:List (Nat×Value)}{w0 w:World}{hA hV:Hp}{ps:List HP}{os:List HO}{L l:List Oper}{Q:Cont}{d:Nat}{dd:Option Nat}{t tr e T:TypeId}{x y:Operand}{pos:String}{af:Array Edge}{g:Option (Nat×Bool)}{α:Type}{f:α→Value}{N b m:Nat}{xs:List α}{pre post:List Value}{j:Int}{ik:IntKind}{x0:α}{u:Value}
theorem St.arr(i:Nat){cs:List Value}(hi:os[i]?=some (Zl b cs T))(xs:List α)(pre post:List Value)(hc:cs=pre++(xs.map f++post))(hN:xs.length=N)(h:St w0 hA hV ps os w):St w0 hA hV ps (os.set i (Z0D b pre f N xs post T)) w:=
 h.Z8G i hi fun a c hp=>⟨hN,by rw[←hc];exact hp⟩
theorem St.Z5j(i:Nat)(hi:os[i]?=some (Z0D b pre f N xs post T))(h:St w0 hA hV ps os w):xs.length=N∧w.heap[b]?=some (.cells (pre++(xs.map f++post)).toArray T (0,0)):=by
 obtain⟨m,fr,hN,hO,n1,n2,d,s1,s2,p,q⟩:=h;obtain⟨h1,h2,e,t1,t2,r,s⟩:=Sep.take i os hi q;exact⟨r.1,s2 _ _ (t1 _ _ r.2)⟩
theorem Val.Zc0(i:Nat)(hi:os[i]?=some (Z0D b pre f N xs post T))(hu:P.underlying t=some (.array N e))(hs:(P.info? e).map (·.size)=some 1)(h0:0≤j)(hj:xs[j.toNat]?=some x0)
    (hx:ev σ x=some (.pointer (some ⟨b,m,none⟩))) (hm:pre.length=m) (hy:ev σ y=some (.int ik j)) :
    Val P n σ (St w0 hA hV ps os) ⟨dd,.indexAddr t x y,tr,pos,af,g⟩ (.pointer (some ⟨b,m+j.toNat,none⟩)):=fun a w ha hw=>by
 obtain⟨hl,-⟩:=hw.Z5j i hi;have hlt:j.toNat<xs.length:=by
  rcases Nat.lt_or_ge j.toNat xs.length with h|h
  ·exact h
  ·rw[List.getElem?_eq_none h]at hj;cases hj
 have hb:0≤j∧j<(N:Int):=⟨h0,by omega⟩
 have hadd:(⟨b,m,none⟩:Addr).add j.toNat=⟨b,m+j.toNat,none⟩:=by unfold Addr.add;split<;>simp_all
 have hsz:(sizeOf e).run P w=.ok 1 w:=by
  cases hq:P.info? e with
  |none=>simp[hq]at hs
  |some ii=>simp[hq]at hs;simp[sizeOf,typeInfo,hq,hs]
 simp[execOp,ha.eval hx,ha.eval hy,Instr.indexAt,run_underlying hu,Instr.sureAddr,asIntOf,hb,hsz,hadd]
theorem Zkr(hl:xs[j.toNat]?=some x0):(pre++(xs.map f++post))[pre.length+j.toNat]?=some (f x0):=by
 have hlt:j.toNat<xs.length:=by
  rcases Nat.lt_or_ge j.toNat xs.length with h|h
  ·exact h
  ·rw[List.getElem?_eq_none h]at hl;cases hl
 rw[List.getElem?_append_right (by omega),Nat.add_sub_cancel_left,List.getElem?_append_left (by simpa using hlt)];simp[hl]
theorem Val.Zks(i:Nat)(hi:os[i]?=some (Z0D b pre f N xs post T)){X5:TypeDesc}(hu:P.underlying t=some X5)(hd:(match X5 with | .struct _ | .array _ _=>true | _=>false)=false)(hj:xs[j.toNat]?=some x0)
    (hx:ev σ x=some (.pointer (some ⟨b,m+j.toNat,none⟩))) (hm:pre.length=m):Val P n σ (St w0 hA hV ps os) ⟨dd,.load t x,tr,pos,af,g⟩ (f x0):=fun a w ha hw=>by
 obtain⟨hl,hc⟩:=hw.Z5j i hi;have hcell:w.cell? ⟨b,m+j.toNat,none⟩=some (f x0):=by
  have:=Zkr (f:=f) (pre:=pre) (post:=post) hj;rw[hm]at this;simp only[World.cell?,hc,bS,List.getElem?_toArray];exact this
 simp[execOp,ha.eval hx,Instr.loadAt,Instr.sureAddr,WQ hu hd hcell]
theorem Zc1{u':α}:∀(xs:List α) (k:Nat),k<xs.length→put (xs.map f++post) k [f u']=(xs.set k u').map f++post
 | [],k,h=>by simp at h
 |x::r,0,_=>by
  show f u'::put (r.map f++post) 0 []=_;have:∀cs:List Value,put cs 0 []=cs:=fun cs=>by cases cs<;>rfl
  rw[this];simp
 |x::r,k+1,h=>by
  show f x::put (r.map f++post) k [f u']=_;rw[Zc1 r k (by simpa using h)];simp
theorem ZdV{u':α}{k:Nat}(hk:k<xs.length):∀(pre:List Value),put (pre++(xs.map f++post)) (pre.length+k) [f u']=pre++((xs.set k u').map f++post)
 | []=>by simpa using Zc1 xs k hk
 |c::r=>by
  have:=ZdV (u':=u') hk r;rw[show(c::r).length+k=(r.length+k)+1 by simp;omega];show c::put (r++(xs.map f++post)) (r.length+k) [f u']=_;rw[this];rfl
theorem SP.Zis(i:Nat)(hi:os[i]?=some (Z0D b pre f N xs post T))(hs:(P.info? t).map (·.size)=some 1)(hg:gd L σ g=some true)(hj:xs[j.toNat]?=some x0){z0:α}
    (hx:ev σ x=some (.pointer (some ⟨b,m+j.toNat,none⟩))) (hm:pre.length=m) (hy:ev σ y=some (f z0)) (hv:∀z,(f z).cells=[f z].toArray) (h1:∀z,one [f z]=true)
    (h:SP P n ρ σ (St w0 hA hV ps (os.set i (Z0D b pre f N (xs.set j.toNat z0) post T))) L l Q):SP P n ρ σ (St w0 hA hV ps os) L (⟨none,.store t x y,tr,pos,af,g⟩::l) Q:=by
 have hlt:j.toNat<xs.length:=by
  rcases Nat.lt_or_ge j.toNat xs.length with h|h
  ·exact h
  ·rw[List.getElem?_eq_none h]at hj;cases hj
 refine SP.act hg rfl (fun a w ha hw=>⟨w.setRow b (put (pre++(xs.map f++post)) (m+j.toNat) [f z0]).toArray,?_,?_⟩) h
 ·have:=Jb (P:=P) (t:=t) (v:=f z0) (vs:=[f z0]) (off:=m+j.toNat) (hw.Z5j i hi).2 hs (hv z0) (h1 z0) (by simp;omega);simp[execOp,ha.eval hx,ha.eval hy,Instr.storeAt,Instr.sureAddr,this]
 ·refine hw.change i hi (Met.setRow _ _ _) fun hP hO hs hx=>⟨bk b (.cells (put (pre++(xs.map f++post)) (m+j.toNat) [f z0]).toArray T (0,0)),⟨by simpa using hx.1,?_⟩,fun b' o e=>?_,fun b' hb'=>?_,fun b' o e1 e2=>?_⟩
  ·rw[←hm,ZdV hlt];simp[Zl,bk]
  ·unfold bk at e;split at e
   ·rename_i hb;subst hb;simp at e;subst e
    exact setRow_heap w b' _ _ T (0,0) (hs _ _ hx.2)
   ·cases e
  ·unfold bk at hb';split at hb'
   ·rename_i hb;subst hb;rw[show hO b'=_ from hx.2];simp
   ·simp at hb'
  ·show(w.setRow b _).heap[b']?=_;rw[setRow_other];exact e1;intro e;subst e;rw[show hO _=_ from hx.2]at e2;cases e2
theorem Val.Jo(i:Nat)(hi:os[i]?=some (Z0D b pre f N xs post T)){X5:TypeDesc}(hu:P.underlying t=some X5)(hd:(match X5 with | .struct _ | .array _ _=>true | _=>false)=false){off k:Nat}
    (hx:ev σ x=some (.pointer (some ⟨b,off,none⟩))) (hm:pre.length+N+k=off) (hk:post[k]?=some u):Val P n σ (St w0 hA hV ps os) ⟨dd,.load t x,tr,pos,af,g⟩ u:=fun a w ha hw=>by
 obtain⟨hl,hc⟩:=hw.Z5j i hi;have hcell:w.cell? ⟨b,off,none⟩=some u:=by
  have e1:(pre++(xs.map f++post))[off]?=some u:=by
   rw[←hm,List.getElem?_append_right (by omega),List.getElem?_append_right (by simp;omega)];simp only[List.length_map,hl];rw[show pre.length+N+k-pre.length-N=k by omega,hk]
  simp only[World.cell?,hc,List.getElem?_toArray];exact e1
 simp[execOp,ha.eval hx,Instr.loadAt,Instr.sureAddr,WQ hu hd hcell]
end
end Go.Q
namespace Go.Q
def Zit{α:Type}(k:Kd α)(agg:Bool)(x:α)(v:Value)(h:Hp):Prop:=∃cs,k.rd h cs x∧(bif agg then v=.agg cs.toArray else [v]=cs)
def E1{α:Type}(k:Kd α)(agg:Bool)(x:α)(vals:List Value):HP:=⟨fun h=>∃v,vals=[v]∧Zit k agg x v h,fun _ _ s ⟨v,e,cs,r,q⟩=>⟨v,e,cs,k.mono _ _ _ _ s r,q⟩⟩
def E2{α β:Type}(k:Kd α)(agg:Bool)(k':Kd β)(agg':Bool)(x:α×β)(vals:List Value):HP:=
 ⟨fun h=>∃v v',vals=[v,v']∧Zit k agg x.1 v h∧Zit k' agg' x.2 v' h,fun _ _ s ⟨v,v',e,⟨cs,r,q⟩,cs',r',q'⟩=>⟨v,v',e,⟨cs,k.mono _ _ _ _ s r,q⟩,cs',k'.mono _ _ _ _ s r',q'⟩⟩
section
variable{w0 w:World}{hA hV:Hp}{ps:List HP}{os:List HO}
theorem St.shut{ι:Type}{f:ι→HO}(z:ι)(h:St w0 hA hV ps (f z::os) w):St w0 hA hV ps (HO.ex f::os) w:=St.imp (fun _ q=>q) (fun a b _ s=>by
 obtain⟨h1,h2,e,t1,t2,r,q⟩:=s;exact⟨h1,h2,e,t1,t2,⟨z,r⟩,q⟩) h
def RR(w:World)(hA hV:Hp)(b:Bool)(lo j:HO):Ending→World→Prop:=fun e w'=>∃v,e=.returned v∧Since w hA hV (HO.Yr (v=.bool b) (HO.and lo j)).p w'
variable{P:Program}{n:Fr}{ρ:Option Nat}{σ σ1:List (Nat×Value)}{Q:Cont}
end
theorem E1.len{α:Type}{k:Kd α}{agg:Bool}{m:Nat}(hm:m=1):∀x vals h,(E1 k agg x vals).p h→vals.length=m:=fun x vals h ⟨v,e,_⟩=>by subst e;exact hm.symm
theorem E2.len{α β:Type}{k:Kd α}{agg:Bool}{k':Kd β}{agg':Bool}{m:Nat}(hm:m=2):∀x vals h,(E2 k agg k' agg' x vals).p h→vals.length=m:=fun x vals h ⟨v,v',e,_⟩=>by subst e;exact hm.symm
theorem QE.ex{n:Fr}{σ:List (Nat×Value)}{A:World→Prop}{Q:Cont}{ι:Type}{I:ι→World→Prop}{e:Exit}(hx:∀w,A w→∃x,I x w)(h:∀x,QE n σ (I x) Q e):QE n σ A Q e:=fun a w ha hw=>by
 obtain⟨x,k⟩:=hx w hw;exact h x a w ha k
section
variable{P:Program}{n:Fr}{ρ:Option Nat}{σ:List (Nat×Value)}{w0:World}{hA hV:Hp}{ps:List HP}{os:List HO}{Q:Cont}{c:Code}
theorem CP.Z2V(see:YG w0 hA hV)(i:Nat){b:Nat}{cs:List Value}{T:TypeId}(hi:os[i]?=some (Zl b cs T))(h:CP P n ρ σ (St w0 hA hV (Ku b cs T::ps) (os.eraseIdx i)) c Q):CP P n ρ σ (St w0 hA hV ps os) c Q:=
 CP.imp (fun w hw=>hw.freeze i hi see.dj see.sub) h
theorem CP.Vk{α:Type}{k:Kd α}{v:Value}{xs:List α}{T:TypeId}(see:YG w0 hA hV)(i:Nat)(hi:os[i]?=some (Zg k T v xs))(h:CP P n ρ σ (St w0 hA hV (Z9 k v xs::ps) (os.eraseIdx i)) c Q):CP P n ρ σ (St w0 hA hV ps os) c Q:=
 CP.imp (fun w hw=>St.Vk hw i hi see) h
end
section
variable{P:Program}{n:Fr}{ρ:Option Nat}{σ:List (Nat×Value)}{w0:World}{hA hV:Hp}{ps:List HP}{os:List HO}
theorem QE.over{fn:Func}{rs:List ResultVar}{vs:List Value}{R:Ending→World→Prop}{A:World→Prop}(hr:fn.results=rs.toArray)(hds:n.ds=[])(hv:Xp P n σ A rs vs)(h:∀w,A w→R (.returned (single vs)) w):QE n σ A (bodyPost P fn R) .normal:=
 QE.Z89 (P:=P) hr hds hv h
end
theorem K7.forget{β:Type}{r b:Nat}{ik:IntKind}{kv:β→Value}{m left:List (Int×β)}{cur:Option (Int×β)}:∀a h,(K7 r b ik kv m left cur).p a h→(K7 r b ik kv m left none).p a h:=
 fun _ _ ⟨es,clock,since,seen,c0,h1,h2,h3,h4,h5,h6,h7,h8,h9,_⟩=>⟨es,clock,since,seen,c0,h1,h2,h3,h4,h5,h6,h7,h8,h9,fun p e=>by cases e⟩
end Go.Q
namespace Go.Q
section
variable{P:Program}{n:Fr}{ρ:Option Nat}{σ σ':List (Nat×Value)}{A A':World→Prop}{L:List Oper}{Q:Cont}{S:World→Prop}{T:Nat→Bool}{fuel:Nat}{listed:Array Bool}
theorem DT.weak(s:Z0M σ' σ)(hA:∀w,A w→A' w)(h:DT P n ρ σ' A' L Q T S fuel listed):DT P n ρ σ A L Q T S fuel listed:=fun a w ha hw=>h a w (ha.sub s) (hA w hw)
theorem DT.list{l2:Array Bool}(e:listed=l2)(h:DT P n ρ σ A L Q T S fuel l2):DT P n ρ σ A L Q T S fuel listed:=by rw[e];exact h
theorem DT.cut{ι:Type}(σ':ι→List (Nat×Value))(A':ι→World→Prop)(fuel':Nat)(listed':Array Bool)(later:∀z,DT P n ρ (σ' z) (A' z) L Q T S fuel' listed')
    (now:(∀z,DT P n ρ (σ' z) (A' z) L Q T S fuel' listed')→DT P n ρ σ A L Q T S fuel listed):DT P n ρ σ A L Q T S fuel listed:=now later
def Zc2(P:Program)(n:Fr)(ρ:Option Nat)(σ:List (Nat×Value))(A:World→Prop)(L:List Oper)(Q:Cont)(T:Nat→Bool)(S:World→Prop)(fuel:Nat)(listed:Array Bool):List Nat→Prop
 | []=>True
 |i::r=>(∃oi,nth L i=some oi∧T i=true∧SP P n ρ σ A L [oi] (Vq P ρ L Q T S fuel (listed.setIfInBounds i true)))∧Zc2 P n ρ σ A L Q T S fuel listed r
theorem Zc2.get:∀{rs:List Nat} {i:Nat},Zc2 P n ρ σ A L Q T S fuel listed rs→i∈rs→∃oi,nth L i=some oi∧T i=true∧SP P n ρ σ A L [oi] (Vq P ρ L Q T S fuel (listed.setIfInBounds i true))
 | [],_,_,h=>by cases h
 | _::r,i,h,hi=>by
  rcases List.mem_cons.1 hi with rfl|hi
  ·exact h.1
  ·exact Zc2.get h.2 hi
theorem DT.any(i0:Nat)(rs:List Nat)(hr:(Region.ready .any L.toArray listed==i0::rs)=true)(h:Zc2 P n ρ σ A L Q T S fuel listed (i0::rs)):DT P n ρ σ A L Q T S (fuel+1) listed:=fun a w ha hw=>by
 have hr':Region.ready .any L.toArray listed=i0::rs:=by simpa using hr
 refine⟨fun h0=>absurd (hr'▸h0) (by simp),fun j hj=>?_⟩;rw[hr']at hj;obtain⟨oi,hi,hT,hk⟩:=h.get hj;have key:=hk a w ha hw;have hi':L.toArray[j]?=some oi:=by rw[Z4e]at hi;simpa using hi
 rw[hT];unfold wpListIn at key;unfold wpOpIn;rw[hi'];dsimp only at key ⊢;split at key
 ·rename_i hw'
  rw[if_pos hw'];have:=Oper.wpIn_mono (K':=fun a' w'=>(true=true→S w')∧wpT P ρ L.toArray Q T S fuel (listed.setIfInBounds j true) a' w') (fun a' w' h=>by
      have h':S w'∧wpT P ρ L.toArray Q T S fuel (listed.setIfInBounds j true) a' w':=h;exact⟨fun _=>h'.1,h'.2⟩) key
  exact this
 ·rename_i hw'
  rw[if_neg hw'];have k2:S w∧wpT P ρ L.toArray Q T S fuel (listed.setIfInBounds j true) (a.put oi.dst undef) w:=key.2;exact⟨fun _ _=>trivial,fun _=>k2.1,k2.2⟩
end
end Go.Q
namespace Go.Q
section
variable{P:Program}{n:Fr}{ρ:Option Nat}{σ:List (Nat×Value)}{A:World→Prop}{Q:Cont}{c:Code}{m:Nat}
def LP(P:Program)(n:Fr)(ρ:Option Nat)(σ:List (Nat×Value))(A:World→Prop)(c:Code)(Q:Cont)(m:Nat):Prop:=∀a w,Env n σ a→A w→Code.roundsIn (FF ρ) 0 P c Q m a w
theorem CP.rounds(m:Nat)(h:LP P n ρ σ A c Q m):CP P n ρ σ A (.loop c) Q:=fun a w ha hw=>wpIn_loop_rounds m (h a w ha hw)
theorem LP.step(h:CP P n ρ σ A c (Exit.then (Code.roundsIn (FF ρ) 0 P c Q m) Q)):LP P n ρ σ A c Q (m+1):=fun a w ha hw=>h a w ha hw
theorem QE.round(h:LP P n ρ σ A c Q m):QE n σ A (Exit.then (Code.roundsIn (FF ρ) 0 P c Q m) Q) .normal:=h
end
section
variable{P:Program}{n:Fr}{ρ:Option Nat}{σ:List (Nat×Value)}{A:World→Prop}{L l:List Oper}{Q:Cont}{dd:Option Nat}{d:Nat}{t e tr ty:TypeId}{x y:Operand}{pos:String}{af:Array Edge}{g:Option (Nat×Bool)}{b:Nat}{off:Nat}
theorem Val.nilCheck{ad:Addr}(hx:ev σ x=some (.pointer (some ad))):Val P n σ A ⟨dd,.nilCheck x,tr,pos,af,g⟩ (.pointer (some ad)):=fun a w ha _=>by
 simp[execOp,ha.eval hx]
theorem Val.cast{o:Oper}{v v':Value}(h:Val P n σ A o v')(e:v'=v):Val P n σ A o v:=e▸h
def Z57:HP:=⟨fun _=>True,fun _ _ _ h=>h⟩
variable{w0:World}{hA hV:Hp}{ps:List HP}{os:List HO}
end
end Go.Q
namespace Go.Q
section
variable{P:Program}{n:Fr}{σ:List (Nat×Value)}{A:World→Prop}{Q:Cont}{c rest:Code}{id:Nat}
theorem CP.scope(l:Nat)(M:Act→World→Prop)(hf:findLabel c l=some rest)(hQ:∀l' a w,¬Q (.goto l') a w)(later:∀a w,M a w→rest.wpIn (FF none) 0 P Q a w)
    (now:CP P n none σ A c (Exit.jump l M Q)):CP P n none σ A (.scope c) Q:=fun a w ha hw=>by
 refine wpIn_wide.2 (wp_scope_jumps l M (fun _ _=>0) hf (wpIn_wide.1 (now a w ha hw)) fun a w h=>?_);refine wp_mono (wpIn_wide.1 (later a w h)) fun e a w q=>?_;cases e with
 |goto l'=>exact absurd q (hQ _ _ _)
 | _=>exact q
theorem CP.goto{l:Nat}(h:QE n σ A Q (.goto l)):CP P n none σ A (.goto l) Q:=fun a w ha hw=>wpIn_goto (h a w ha hw)
theorem QE.jump{l:Nat}{M:Act→World→Prop}(h:∀a w,Env n σ a→A w→M a w):QE n σ A (Exit.jump l M Q) (.goto l):=fun a w ha hw=>⟨rfl,h a w ha hw⟩
theorem QE.Z5k{l:Nat}{M:Act→World→Prop}{e:Exit}(he:(match e with | .goto _=>false | _=>true)=true)(h:QE n σ A Q e):QE n σ A (Exit.jump l M Q) e:=fun a w ha hw=>by
 cases e<;>first|exact h a w ha hw|cases he
theorem QE.Z5l{l:Nat}(h:QE n σ A Q (.goto l)):QE n σ A (Exit.inBlock id Q) (.goto l):=h
end
end Go.Q
namespace Go.Q
def Xi{α:Type}(k:Kd α)(b:Nat)(xs:List α):HP:=
 ⟨fun h=>∃c T fr,h b=some (.cells c T fr)∧∀(j:Nat) (x:α),xs[j]?=some x→∃cs,k.rd h cs x∧∀(i:Nat) (u:Value),cs[i]?=some u→c[j*k.sz+i]?=some u,
  fun _ _ s ⟨c,T,fr,e,q⟩=>⟨c,T,fr,s _ _ e,fun j x hx=>let ⟨cs,r,z⟩:=q j x hx;⟨cs,k.mono _ _ _ _ s r,z⟩⟩⟩
section
variable{P:Program}{n:Fr}{ρ:Option Nat}{σ:List (Nat×Value)}{w0:World}{hA hV:Hp}{ps:List HP}{os:List HO}{L l:List Oper}{Q:Cont}{d:Nat}{t e tr:TypeId}{x y:Operand}{pos:String}{af:Array Edge}{g:Option (Nat×Bool)}{α:Type}{k:Kd α}{N b:Nat}{xs:List α}{j:Int}{ik:IntKind}{x0:α}
theorem SP.Zc3(see:YG w0 hA hV)(i:Nat)(hi:ps[i]?=some (Xi k b xs))(hu:P.underlying t=some (.array N e))(hN:xs.length=N)(hs:(P.info? e).map (·.size)=some k.sz)(h0:0≤j)(hj:xs[j.toNat]?=some x0)(hg:gd L σ g=some true)(hn:Nat.blt d n.n=true)
    (hx:ev σ x=some (.pointer (some ⟨b,0,none⟩))) (hy:ev σ y=some (.int ik j)) (h:∀p,SP P n ρ ((d,p)::σ) (St w0 hA hV (U8 k p x0::ps) os) L l Q) :
    SP P n ρ σ (St w0 hA hV ps os) L (⟨some d,.indexAddr t x y,tr,pos,af,g⟩::l) Q:=by
 refine SP.imp (A':=St w0 hA hV (U8 k (.pointer (some ⟨b,j.toNat*k.sz,none⟩)) x0::ps) os) (fun w hw=>hw.know fun hh ap=>?_) (SP.val (v :=.pointer (some ⟨b,j.toNat*k.sz,none⟩)) (fun a w ha hw=>?_) hg rfl hn (h _))
 ·obtain⟨c,T,fr,e1,q⟩:=ap _ (List.mem_of_getElem? hi);obtain⟨cs,r,z⟩:=q _ _ hj;exact⟨b,_,cs,rfl,r,c,T,fr,e1,z⟩
 ·have hlt:j.toNat<xs.length:=Vp hj;have hb:0≤j∧j<(N:Int):=⟨h0,by omega⟩
  have hadd:(⟨b,0,none⟩:Addr).add (j.toNat*k.sz)=⟨b,j.toNat*k.sz,none⟩:=by unfold Addr.add;split<;>simp_all
  have hsz:(sizeOf e).run P w=.ok k.sz w:=by
   cases hq:P.info? e with
   |none=>simp[hq]at hs
   |some ii=>simp[hq]at hs;simp[sizeOf,typeInfo,hq,hs]
  simp[execOp,ha.eval hx,ha.eval hy,Instr.indexAt,run_underlying hu,Instr.sureAddr,asIntOf,hb,hsz,hadd]
theorem ZdW{v:Value}:∀(l:List Value) (k:Nat),k<l.length→put l k [v]=l.set k v
 | [],_,h=>by simp at h
 | _::r,0,_=>by
  have:∀cs:List Value,put cs 0 []=cs:=fun cs=>by cases cs<;>rfl
  show v::put r 0 []=_;rw[this];rfl
 |c::r,k+1,h=>by
  show c::put r k [v]=_;rw[ZdW r k (by simpa using h)];rfl
theorem Z7m{vs:List Value}{k:Nat}{post:List Value}:∀(l:List Value),put (l++post) (l.length+k) vs=l++put post k vs
 | []=>by simp
 |c::r=>by
  rw[show(c::r).length+k=(r.length+k)+1 by simp;omega];show c::put (r++post) (r.length+k) vs=_;rw[Z7m r];rfl
theorem SP.Z6p(i:Nat){f:α→Value}{pre post:List Value}{T:TypeId}{off k:Nat}{u:Value}(hi:os[i]?=some (Z0D b pre f N xs post T))(hs:(P.info? t).map (·.size)=some 1)(hg:gd L σ g=some true)
    (hx:ev σ x=some (.pointer (some ⟨b,off,none⟩))) (hm:pre.length+N+k=off) (hk:Nat.blt k post.length=true) (hy:ev σ y=some u) (hv:u.cells=[u].toArray) (h1:one [u]=true)
    (h:SP P n ρ σ (St w0 hA hV ps (os.set i (Z0D b pre f N xs (post.set k u) T))) L l Q):SP P n ρ σ (St w0 hA hV ps os) L (⟨none,.store t x y,tr,pos,af,g⟩::l) Q:=by
 have hk':k<post.length:=by simpa using hk
 have hput:∀(z:xs.length=N),put (pre++(xs.map f++post)) off [u]=pre++(xs.map f++post.set k u):=fun z=>by
  rw[←hm,Nat.add_assoc,Z7m pre,show N+k=(xs.map f).length+k by simp[z],Z7m (xs.map f),ZdW post k hk']
 refine SP.act hg rfl (fun a w ha hw=>⟨w.setRow b (pre++(xs.map f++post.set k u)).toArray,?_,?_⟩) h
 ·obtain⟨hl,hc⟩:=hw.Z5j i hi;have:=Jb (P:=P) (t:=t) (v:=u) (vs:=[u]) (off:=off) hc hs hv h1 (by simp;omega);rw[hput hl]at this;simp[execOp,ha.eval hx,ha.eval hy,Instr.storeAt,Instr.sureAddr,this]
 ·refine hw.change i hi (Met.setRow _ _ _) fun hP hO hs hx=>⟨bk b (.cells (pre++(xs.map f++post.set k u)).toArray T (0,0)),⟨hx.1,by simp[Zl,bk]⟩,fun b' o e=>?_,fun b' hb'=>?_,fun b' o e1 e2=>?_⟩
  ·unfold bk at e;split at e
   ·rename_i hb;subst hb;simp at e;subst e
    exact setRow_heap w b' _ _ T (0,0) (hs _ _ hx.2)
   ·cases e
  ·unfold bk at hb';split at hb'
   ·rename_i hb;subst hb;rw[show hO b'=_ from hx.2];simp
   ·simp at hb'
  ·show(w.setRow b _).heap[b']?=_;rw[setRow_other];exact e1;intro e;subst e;rw[show hO _=_ from hx.2]at e2;cases e2
theorem Val.Zgf{A:World→Prop}{dd:Option Nat}{off off2 m:Nat}(hu:P.underlying t=some (.array N e))(hs:(P.info? e).map (·.size)=some m)(hj:0≤j∧j<(N:Int))(ho:off+j.toNat*m=off2)(hx:ev σ x=some (.pointer (some ⟨b,off,none⟩)))(hy:ev σ y=some (.int ik j)) :
    Val P n σ A ⟨dd,.indexAddr t x y,tr,pos,af,g⟩ (.pointer (some ⟨b,off2,none⟩)):=fun a w ha _=>by
 have hadd:(⟨b,off,none⟩:Addr).add (j.toNat*m)=⟨b,off+j.toNat*m,none⟩:=by unfold Addr.add;split<;>simp_all
 have hsz:(sizeOf e).run P w=.ok m w:=by
  cases hq:P.info? e with
  |none=>simp[hq]at hs
  |some ii=>simp[hq]at hs;simp[sizeOf,typeInfo,hq,hs]
 simp[execOp,ha.eval hx,ha.eval hy,Instr.indexAt,run_underlying hu,Instr.sureAddr,asIntOf,hj,hsz,hadd,ho]
end
end Go.Q
namespace Go.Q
section
variable{P:Program}{n:Fr}{ρ:Option Nat}{σ:List (Nat×Value)}{A:World→Prop}{L l:List Oper}{Q:Cont}{d:Nat}{dd:Option Nat}{t tr:TypeId}{x:Operand}{pos:String}{af:Array Edge}{g:Option (Nat×Bool)}{aq:Array Operand}{ats:Array TypeId}{f:FuncId}{us vals caps:List Value}
theorem SP.rebind(hfn:((P.funcs[f]?).map fun fn=>fn.body.isSome && !(fn.name == "runtime.NumGoroutine"))=some true)(hg:gd L σ g=some true)(hx:ev σ x=some (.func (.func f) us.toArray caps.toArray))(has:evs σ aq.toList=some vals)
    (h:SP P n ρ σ A L (⟨some d,.call ⟨.value (.const (.func (.func f) #[] caps.toArray)),(us.map Operand.const++aq.toList).toArray,ats⟩,tr,pos,af,g⟩::l) Q) :
    SP P n ρ σ A L (⟨some d,.call ⟨.value x,aq,ats⟩,tr,pos,af,g⟩::l) Q:=fun a w ha hw=>by
 have key:=h a w ha hw;have hm:aq.map a.eval=vals.toArray:=by rw[←Array.toArray_toList (xs:=aq.map a.eval),Array.toList_map,ha.Z1i has]
 have hl:aq.toList.map a.eval=vals:=ha.Z1i has;have hu:us.map (fun v=>a.eval (Operand.const v))=us:=by
  have:(fun v=>a.eval (Operand.const v))=id:=by funext v;simp[Act.eval]
  rw[this];simp
 have hr1:(execOp a.eval ⟨some d,.call ⟨.value x,aq,ats⟩,tr,pos,af,g⟩).run P w=.ok (.enter f (us++vals++caps).toArray) w:=by
  simp[execOp,resolve,ha.eval hx,Deferred.ofValue,invoke,hm,Z04 hfn (b:=default) (fv:=undef)]
 have hr2:(execOp a.eval ⟨some d,.call ⟨.value (.const (.func (.func f) #[] caps.toArray)),(us.map Operand.const++aq.toList).toArray,ats⟩,tr,pos,af,g⟩).run P w=.ok (.enter f (us++vals++caps).toArray) w:=by
  have he:a.eval (.const (.func (.func f) #[] caps.toArray))=.func (.func f) #[] caps.toArray:=by simp[Act.eval]
  have h3:((us.map Operand.const++aq.toList).toArray.map a.eval)=(us++vals).toArray:=by
   simp only[List.map_toArray,List.map_append,List.map_map,hl,Function.comp_def,hu]
  simp only[execOp,resolve,he,Deferred.ofValue,h3];simp[invoke,Z04 hfn (b:=default) (fv:=undef)]
 unfold wpListIn at key ⊢;rw[if_pos (ha.wanted hg)]at key ⊢;have k2:=key.2;rw[TP hr2 (fun d e=>by cases e),Oper.uponIn_enter]at k2;refine⟨fun _ _=>trivial,?_⟩;rw[TP hr1 (fun d e=>by cases e),Oper.uponIn_enter];exact k2
end
end Go.Q
namespace Go.Q
open Go.Sort Go.Proofs
def Z1k{α:Type}(enc:α→List Value)(xs:List α):List Value:=xs.flatMap enc
theorem Z6q{α:Type}{enc:α→List Value}{s:Nat}(he:∀x,(enc x).length=s):∀xs:List α,(Z1k enc xs).length=xs.length*s
 | []=>by simp[Z1k]
 |x::xs=>by
  have:=Z6q he xs;simp only[Z1k,List.flatMap_cons,List.length_append,List.length_cons]at this ⊢;rw[he,this,Nat.add_mul];omega
theorem Z6r{α:Type}[Inhabited α]{enc:α→List Value}{s:Nat}(he:∀x,(enc x).length=s):∀(xs:List α) (t:Nat),t<xs.length*s→(Z1k enc xs)[t]?=some (enc xs.toArray[t / s]!)[t % s]!
 | [],t,h=>by simp at h
 |x::xs,t,h=>by
  have hs:0<s:=by
   rcases Nat.eq_zero_or_pos s with z|z
   ·subst z;simp at h
   ·exact z
  simp only[Z1k,List.flatMap_cons];by_cases ht:t<s
  ·rw[List.getElem?_append_left (by rw[he];exact ht),Nat.div_eq_of_lt ht,Nat.mod_eq_of_lt ht];have:(x::xs).toArray[0]! = x:=rfl;rw[this];have hl:t<(enc x).length:=by rw[he];exact ht
   rw[List.getElem?_eq_getElem hl,getElem!_pos (enc x) t hl]
  ·rw[List.getElem?_append_right (by rw[he];omega),he];have ih:=Z6r he xs (t-s) (by simp only[List.length_cons,Nat.add_mul]at h;omega);simp only[Z1k]at ih;rw[ih];have e1:t / s=(t-s) / s+1:=by
    rw[←Nat.add_div_right _ hs,Nat.sub_add_cancel (by omega)]
   have e2:t % s=(t-s) % s:=by
    rw[←Nat.mod_eq_sub_mod (by omega)]
   have hd:(t-s) / s<xs.length:=by
    rw[Nat.div_lt_iff_lt_mul hs];simp only[List.length_cons,Nat.add_mul]at h;omega
   rw[e1,e2];congr 2;have a1:(x::xs).toArray[(t-s) / s+1]! = (x::xs)[(t-s) / s+1]'(by simp;omega):=by
    rw[getElem!_pos _ _ (by simp;omega)];simp
   have a2:xs.toArray[(t-s) / s]! = xs[(t-s) / s]'hd:=by
    rw[getElem!_pos _ _ (by simpa using hd)];simp
   rw[a1,a2];simp
theorem Zc4{α:Type}[Inhabited α]{enc:α→List Value}{s:Nat}(he:∀x,(enc x).length=s)(xs:List α):(flatK enc s xs.toArray).toList=Z1k enc xs:=by
 apply List.ext_getElem?;intro t;by_cases h:t<xs.length*s
 ·rw[Z6r he xs t h,Array.getElem?_toList];have hz:t<(flatK enc s xs.toArray).size:=by simpa using h
  rw[Array.getElem?_eq_getElem hz,←getElem!_pos _ t hz,get_flatK _ _ _ _ (by simpa using h)]
 ·rw[List.getElem?_eq_none (by simpa using Nat.le_of_not_lt h),List.getElem?_eq_none (by rw[Z6q he];omega)]
theorem Flat.enc{α:Type}{k:Kd α}{enc:α→List Value}(hk:∀h cs x,k.rd h cs x↔cs=enc x){a:Hp}:∀{xs:List α} {cells:List Value},Flat k a cells xs↔cells=Z1k enc xs
 | [],cells=>Iff.rfl
 |x::xs,cells=>by
  constructor
  ·rintro⟨cs,rest,rfl,r,f⟩;rw[(hk _ _ _).1 r,(Flat.enc hk).1 f];rfl
  ·rintro rfl;exact⟨enc x,Z1k enc xs,rfl,(hk _ _ _).2 rfl,(Flat.enc hk).2 rfl⟩
theorem Zg.Z7n{P:Program}{f:FuncId}{α:Type}[Inhabited α]{k:Kd α}{T:TypeId}{v:Value}{l:List α}(ar:Value→Array Value)(rs:Value→Value)(enc:α→List Value)(hk:∀h cs x,k.rd h cs x↔cs=enc x)(srt:Array α→Array α)(hz:∀d,(srt d).size=d.size)
    (hc:∀(blk cap:Nat) (d:Array α) (w:World),HoldsK enc k.sz w blk 0 d→blk<w.heap.size→d.size<4611686018427387904→d.size≤cap→d=l.toArray →
     Calls P f (ar (.slice (some ⟨blk,0,none⟩) d.size cap)) w fun e w'=>e=.returned (rs (.slice (some ⟨blk,0,none⟩) d.size cap))∧∃n os,w'=sortWorldK enc k.sz w blk 0 n (srt d) os)
    (hn:l=[]→∀w hV,Sub hV (hp w)→XL P f (ar (.slice none 0 0)) em hV w (fun v=>HO.pure (v=rs (.slice none 0 0))))
    (hll:l.length<4611686018427387904) {w:World} {hP h1:Hp} (sub:Sub hP (hp w)) (s1:Sub h1 (hp w)) (dj:Dj hP h1) (hI:(Zg k T v l).p hP h1) :
    XL P f (ar v) h1 hP w (fun r=>HO.Yr (r=rs v) (HO.Yk [Zg k T v (srt l.toArray).toList])):=by
 have he:∀x,(enc x).length=k.sz:=fun x=>k.len em _ _ ((hk em _ x).2 rfl);obtain⟨cells,fl,hl,⟨rfl,hn0⟩|⟨g,cap,cur,rfl,hg,hle,hm,hs,ht⟩⟩:=hI
 ·obtain rfl:=List.eq_nil_of_length_eq_zero hn0;have hsz:(srt #[]).toList=[]:=by
   have:=hz #[];exact List.eq_nil_of_length_eq_zero (by simpa using this)
  refine(hn rfl w hP sub).mono fun e w' ⟨r,h1',h2⟩=>⟨r,h1',?_⟩
  obtain⟨m,fr,hN,hO,n1,n2,d,t1,t2,q⟩:=h2;refine⟨m,fun b o hb ha=>fr b o hb rfl,hN,em,fun b hb ha=>n1 b hb rfl,fun _ _ _=>rfl,Dj.WM _,t1,Sub.em _,q,?_⟩;rw[hsz];exact⟨em,em,Dj.YM _,Sub.em _,Sub.em _,⟨[],rfl,by simp,.inl ⟨rfl,rfl⟩⟩,trivial⟩
 ·have hcells:cells=Z1k enc l:=(Flat.enc hk).1 fl;have hgw:w.heap[g]?=some (.cells cur T (0,0)):=s1 _ _ hg;have hlt:g<w.heap.size:=(Array.getElem?_eq_some_iff.1 hgw).1;have hold:HoldsK enc k.sz w g 0 l.toArray:=by
   intro j hj;have hj':j<l.length*k.sz:=by simpa using hj
   have e1:cur[j]?=some (flatK enc k.sz l.toArray)[j]! := by
    have a1:(Z1k enc l)[j]?=some (flatK enc k.sz l.toArray)[j]! := by
     rw[Z6r he l j hj',get_flatK _ _ _ _ (by simpa using hj')]
    rw[←a1,←hcells,←ht,List.getElem?_take_of_lt hj',Array.getElem?_toList]
   refine⟨?_,?_⟩
   ·simp only[World.cell?,Nat.zero_add];rw[hgw];simpa using e1
   ·simp only[World.frozen?];rw[hgw];simp
  have hsz:l.toArray.size<4611686018427387904:=by simpa using hll
  have:=hc g cap l.toArray w hold hlt hsz (by simpa using hle) rfl;rw[List.size_toArray]at this;refine this.mono fun e w' ⟨r,n,os,hw⟩=>⟨_,r,?_⟩
  subst hw;have hnew:∀b,b<w.heap.size→(sortWorldK enc k.sz w g 0 n (srt l.toArray) os).heap[b]?=if b=g then some (.cells (putCells id 0 (flatK enc k.sz (srt l.toArray)) cur) T (0,0))else w.heap[b]?:=by
   intro b hb;have e0:(sortWorldK enc k.sz w g 0 n (srt l.toArray) os).heap=w.heap.modify g (onCells (putCells id 0 (flatK enc k.sz (srt l.toArray))))++os:=rfl;rw[e0,Array.getElem?_append_left (by simpa using hb),Array.getElem?_modify];by_cases hbg:g=b
   ·subst hbg;rw[if_pos rfl,if_pos rfl,hgw];rfl
   ·rw[if_neg hbg,if_neg (Ne.symm hbg)]
  refine⟨⟨rfl,rfl,rfl,?_⟩,?_,em,fun b=>if b=g then some (.cells (putCells id 0 (flatK enc k.sz (srt l.toArray)) cur) T (0,0))else none,fun _ _ _=>rfl,?_,Dj.YM _,Sub.em _,?_,rfl,?_⟩
  ·have e0:(sortWorldK enc k.sz w g 0 n (srt l.toArray) os).heap=w.heap.modify g (onCells (putCells id 0 (flatK enc k.sz (srt l.toArray))))++os:=rfl;rw[e0];simp
  ·intro b o hb ha;have hbs:b<w.heap.size:=(Array.getElem?_eq_some_iff.1 hb).1;have hbg:b≠g:=fun e=>by subst e;rw[hg]at ha;cases ha
   show(sortWorldK enc k.sz w g 0 n (srt l.toArray) os).heap[b]?=some o;rw[hnew b hbs,if_neg hbg];exact hb
  ·intro b hb ha;have hbg:b≠g:=fun e=>by subst e;rw[hg]at ha;cases ha
   exact if_neg hbg
  ·intro b o hb;dsimp only at hb;by_cases hbg:b=g
   ·subst hbg;rw[if_pos rfl]at hb;show(sortWorldK enc k.sz w b 0 n (srt l.toArray) os).heap[b]?=some o;rw[hnew b hlt,if_pos rfl];exact hb
   ·rw[if_neg hbg]at hb;cases hb
  ·have hlen:(srt l.toArray).toList.length=l.length:=by rw[Array.length_toList,hz];simp
   refine⟨_,em,Dj.WM _,Sub.refl _,Sub.em _,⟨Z1k enc (srt l.toArray).toList,(Flat.enc hk).2 rfl,by rw[Z6q he],.inr ⟨g,cap,putCells id 0 (flatK enc k.sz (srt l.toArray)) cur,by rw[hlen],if_pos rfl,by rw[hlen];exact hle,hm,by simp[putCells,hs],?_⟩⟩,trivial⟩;have hf:(flatK enc k.sz (srt l.toArray)).toList=Z1k enc (srt l.toArray).toList:=by
    have:=Zc4 (enc:=enc) he (srt l.toArray).toList;simpa using this
   rw[←hf];apply List.ext_getElem?;intro t;rw[hlen];have hfs:(flatK enc k.sz (srt l.toArray)).size=l.length*k.sz:=by rw[size_flatK,hz];simp
   have hle':l.length*k.sz≤cur.size:=by rw[hs];exact Nat.mul_le_mul_right _ hle
   by_cases h:t<l.length*k.sz
   ·rw[List.getElem?_take_of_lt h,Array.getElem?_toList,Array.getElem?_toList];have h2:t<cur.size:=by omega
    have h3:t<(flatK enc k.sz (srt l.toArray)).size:=by omega
    simp only[putCells,Array.getElem?_mapIdx];rw[Array.getElem?_eq_getElem h2,Array.getElem?_eq_getElem h3];simp only[Option.map_some,Nat.zero_le,true_and,Nat.zero_add,Nat.sub_zero,id];rw[if_pos h3,getElem!_pos _ t h3]
   ·rw[List.getElem?_eq_none (by rw[List.length_take];omega),List.getElem?_eq_none (by rw[Array.length_toList];omega)]
end Go.Q
