/- Lemmas: Graph Gps GraphB GraphC GraphD GraphE Canon Put Typ TypB TypC TypD TypE TypF TypG TypH TypI TypJ TypK TypL TypM TypN TypO TypP TypQ TypR TypT TypU KDat TypV TypW Mem Region Round Short KBase. -/
import Derived.Test.YtnicceekibancaaGreatBZ
import Derived.Shelf.SlGeneric
import Derived.WalkKit
import Derived.WalkSpells
import Derived.WalkLawsBesides
import Derived.Lib.Hide
import Derived.Lib.QuietBelow
import Derived.BigQuiet
import Derived.Shelf.Abstract
import Derived.Shelf.Spec.TrailingZeros
import Derived.RangeFuncNested
import Derived.RangeFuncBound
import Derived.RangeFuncCalls
import Derived.RangeFuncLeaves
import Derived.OwnWalkIn
import Derived.TacticsInMore
import Derived.LoopNIn
import Derived.LoopIn
import Derived.Deep.MidRow
import Derived.Laws.EntriesVeiled
import Derived.Deep.WholeRow
import Derived.Recover
import Derived.RegionTactic
import Derived.BigRegion
import Derived.Deep.RegionHeld3
import Derived.StillTailTactics
import Derived.OrdersIn
import Derived.Test.YtnicceekibancaaGreatProg
set_option linter.all false
set_option maxRecDepth 100000
set_option maxHeartbeats 8000000
namespace Go.Proofs.YtnicceekibancaaGreat
variable{B a b i j k n:Nat}{P:Program}{Q:Exit->Act->World->Prop}{R c:Nat->Nat->Bool}{T e t:TypeId}{o:Obj}{p:Nat->Bool}{r:List Value}{v:Value}{w w':World}{x:Int}
section
inductive Fo where
 |nil:Fo
 |cons (a n:Int) (k r:Fo):Fo
deriving DecidableEq,Repr,Inhabited
structure Nd where
 a:Int
 n:Int
 k:Fo
deriving DecidableEq,Repr,Inhabited
def Fo.list:Fo->List Nd
 | .nil=>[]
 | .cons a n k r=>⟨a,n,k⟩::r.list
def Fo.of:List Nd->Fo
 |[]=>.nil
 |t::ts=>.cons t.a t.n t.k (Fo.of ts)
theorem Fo.lF:∀l:List Nd,(Fo.of l).list=l
 |[]=>rfl
 |t::ts=>by unfold Fo.of Fo.list;rw[Fo.lF ts]
theorem Fo.l9:∀f:Fo,Fo.of f.list=f
 | .nil=>rfl
 | .cons a n k r=>by unfold Fo.list Fo.of;rw[Fo.l9 r]
theorem Fo.adt{l a:List Nd}(h:Fo.of l=Fo.of a):l=a:=by rw[<-Fo.lF l,h,Fo.lF]
def Fo.size:Fo->Nat
 | .nil=>0
 | .cons _ _ k r=>1+k.size+r.size
def Nd.size(t:Nd):Nat:=1+t.k.size
theorem Fo.y8:∀(f:Fo) (t:Nd),t∈f.list->t.size<=f.size
 | .nil,t,h=>by cases h
 | .cons a n k r,t,h=>by
  unfold Fo.list at h;unfold Fo.size;rcases aE.1 h with rfl|h
  ·show 1+k.size<=_;omega
  ·have:=Fo.y8 r t h;omega
theorem Nd.ZF{t:Nd}{a n:Int}{l:List Nd}(h:t∈l):t.size<(Nd.mk a n (Fo.of l)).size:=by
 have:=Fo.y8 (Fo.of l) t (by rw[Fo.lF];exact h);show _<1+(Fo.of l).size;omega
structure Vx where
 sort:Int
 n:Int
 parts:List Nat
 to:Option Nat
deriving DecidableEq,Repr,Inhabited
abbrev Gr:=List Vx
def aX(g:Gr)(i:Nat):Vx:=g[i]?.getD default
def dQ(v:Vx):Bool:=v.sort==0
def link(g:Gr)(a b:Nat):Gr:=g.set a { aX g a with to:=some b}
def fD(g:Gr):Nat->Nat->Nat
 |0,n=>n
 |k+1,n=>match(aX g n).to with|none=>n|some m=>fD g k m
def fm(g:Gr):Nat:=(g.filter λv=>v.to.isSome).length
def find(g:Gr)(n:Nat):Nat:=fD g (fm g) n
theorem DJ(g:Gr):fm g<=g.length:=List.length_filter_le _ _
structure Wf (g:Gr):Prop where
 parts:∀i,i<g.length->∀p∈(aX g i).parts,p<g.length
 to:∀i,i<g.length->∀m,(aX g i).to=some m->m<g.length
 ends:∀i,i<g.length->(aX g (find g i)).to=none
theorem Uv(g:Gr)(a:Nat)(x:Vx)(i:Nat):aX (g.set a x) i=if a=i/\a<g.length then x else aX g i:=by
 unfold aX;rw[List.getElem?_set];by_cases h:a=i
 ·subst h;by_cases b:a<g.length
  ·simp[b]
  ·simp[b]
 ·simp[h]
theorem dX(g:Gr)(l:List Vx)(h:i<g.length):aX (g++l) i=aX g i:=by unfold aX;rw[bM h]
theorem xP{g:Gr}(h:(aX g n).to=none):∀k,fD g k n=n
 |0=>rfl
 |k+1=>by unfold fD;rw[h]
theorem Km{g:Gr}(a:∀i,i<g.length->∀m,(aX g i).to=some m->m<g.length):∀(k n:Nat),n<g.length->fD g k n<g.length
 |0,_,h=>h
 |k+1,n,h=>by
  unfold fD
  split
  ·exact h
  ·rename_i m hm;exact Km a k m (a n h m hm)
theorem sy{g:Gr}:∀(k j n:Nat),(aX g (fD g k n)).to=none->fD g (k+j) n=fD g k n
 |0,j,n,h=>by rw[a8];exact xP h j
 |k+1,j,n,h=>by
  rw[show k+1+j=(k+j)+1 by omega];unfold fD at h |-
  split at h
  ·rfl
  ·rename_i m hm;exact sy k j m h
theorem Wf.il{g:Gr}(h:Wf g)(a:n<g.length):find g n<g.length:=Km h.to _ _ a
theorem Wf.ph{g:Gr}(h:Wf g)(a:n<g.length)(b:fm g<=k):fD g k n=find g n:=by
 obtain⟨j,rfl⟩:∃j,k=fm g+j:=⟨k-fm g,by omega⟩;exact sy _ j n (h.ends n a)
theorem qP{α:Type}(p:α->Bool):∀(l:List α) (a:Nat) (x:α) (h:a<l.length),p l[a]=false->p x=true->((l.set a x).filter p).length=(l.filter p).length+1
 |[],a,_,h,_,_=>by simp at h
 |y::l,0,x,_,b,c=>by
  have b:p y=false:=b;rw[bU,bp,bp,b,c];simp
 |y::l,a+1,x,h,b,c=>by
  rw[bV,bp,bp];have d:=qP p l a x (by simpa using h) b c
  split
  ·rw[aD,aD,d]
  ·exact d
theorem lJ{g:Gr}(d:a<g.length)(c:(aX g a).to=none):fm (link g a b)=fm g+1:=by
 unfold fm link;refine qP _ g a _ d ?_ rfl;unfold aX at c;rw[ae d]at c;show(g[a]).to.isSome=false;have c:(g[a]).to=none:=c;rw[c];rfl
theorem dP(g:Gr)(a b:Nat):(link g a b).length=g.length:=List.length_set
theorem fq(g:Gr)(a b i:Nat):aX (link g a b) i=if a=i/\a<g.length then { aX g a with to:=some b} else aX g i:=Uv _ _ _ _
theorem xQ{g:Gr}(d:a<g.length)(c:(aX g a).to=none)(f:(aX g b).to=none)(i:a≠b):∀(k n:Nat),fD g k n≠a->fD (link g a b) k n=fD g k n
 |0,_,_=>rfl
 |k+1,n,h=>by
  unfold fD at h |-;have j:a≠n:=λe=>by
   subst e;rw[c]at h;exact h rfl
  rw[fq,ah λe=>j e.1]
  split at h
  ·rfl
  ·rename_i m hm;exact xQ d c f i k m h
theorem sA{g:Gr}(c:a<g.length)(j:(aX g a).to=none)(f:(aX g b).to=none)(i:a≠b):∀(k n:Nat),fD g k n=a->fD (link g a b) (k+1) n=b
 |0,n,h=>by
  have h:n=a:=h;subst h;unfold fD;rw[fq,aq ⟨rfl,c⟩]
  rfl
 |k+1,n,h=>by
  unfold fD;by_cases d:a=n
  ·subst d;rw[fq,aq ⟨rfl,c⟩];exact xP (by rw[fq,ah λe=>i e.1];exact f) _
  ·rw[fq,ah λe=>d e.1];unfold fD at h
   split at h
   ·rename_i l;exact ay h.symm d
   ·rename_i m hm;exact sA c j f i k m h
theorem Wf.link{g:Gr}(h:Wf g)(c:a<g.length)(n:b<g.length)(d:(aX g a).to=none)(f:(aX g b).to=none)(j:a≠b):Wf (link g a b):=by
 refine⟨λi hi p hp=> ?_,λi hi m hm=> ?_,λi hi=> ?_⟩
 ·rw[dP]at hi |-;rw[fq]at hp
  split at hp
  ·exact h.parts a c p hp
  ·exact h.parts i hi p hp
 ·rw[dP]at hi |-;rw[fq]at hm
  split at hm
  ·cases hm;exact n
  ·exact h.to i hi m hm
 ·rw[dP]at hi;unfold find;rw[lJ c d];by_cases k:fD g (fm g) i=a
  ·rw[sA c d f j _ _ k,fq,ah λe=>j e.1];exact f
  ·have l:fD g (fm g+1) i=fD g (fm g) i:=sy _ 1 i (h.ends i hi);rw[xQ c d f j _ _ (by rw[l];exact k),l,fq,ah λe=>k e.1.symm];exact h.ends i hi
structure Model (g:Gr) (t:Nat->Nd):Prop where
 to:∀i,i<g.length->∀m,(aX g i).to=some m->t i=t m
 node:∀i,i<g.length->dQ (aX g i)=false->t i=⟨(aX g i).sort,(aX g i).n,Fo.of ((aX g i).parts.map t)⟩
theorem Model.fD{g:Gr}{t:Nat->Nd}(h:Model g t)(a:∀i,i<g.length->∀m,(aX g i).to=some m->m<g.length):∀(k n:Nat),n<g.length->t (fD g k n)=t n
 |0,_,_=>rfl
 |k+1,n,b=>by
  unfold Go.Proofs.YtnicceekibancaaGreat.fD
  split
  ·rfl
  ·rename_i m hm;rw[Model.fD h a k m (a n b m hm),h.to n b m hm]
theorem Model.find{g:Gr}{t:Nat->Nd}(h:Model g t)(hw:Wf g)(a:n<g.length):t (find g n)=t n:=h.fD hw.to _ n a
theorem sB{g:Gr}(d:a<g.length)(f:(aX g a).to=none){t:Nat->Nd}:Model (link g a b) t↔Model g t/\t a=t b:=by
 constructor
 ·intro h;refine⟨⟨λi hi m hm=> ?_,λi hi c=> ?_⟩,?_⟩
  ·have eC:a≠i:=λe=>by subst e;rw[f]at hm;cases hm
   exact h.to i (by rw[dP];exact hi) m (by rw[fq,ah λe=>eC e.1];exact hm)
  ·have:=h.node i (by rw[dP];exact hi);rw[fq]at this
   split at this
   ·rename_i e;obtain⟨rfl,_⟩:=e;exact this c
   ·exact this c
  ·exact h.to a (by rw[dP];exact d) b (by rw[fq,aq ⟨rfl,d⟩])
 ·rintro⟨h,j⟩;refine⟨λi hi m hm=> ?_,λi hi c=> ?_⟩
  ·rw[dP]at hi;rw[fq]at hm
   split at hm
   ·rename_i e;cases hm;rw[<-e.1];exact j
   ·exact h.to i hi m hm
  ·rw[dP]at hi;rw[fq]at c |-
   split at c
   ·rename_i e;rw[aq e,<-e.1];exact h.node a d c
   ·rename_i e;rw[ah e];exact h.node i hi c
def uE(eq:Gr->Nat->Nat->Option Gr):Gr->List (Nat×Nat)->Option Gr
 |g,[]=>some g
 |g,(a,b)::l=>match eq g a b with|none=>none|some g'=>uE eq g' l
def DK:Nat->Gr->Nat->Nat->Option Gr
 |0,_,_,_=>none
 |k+1,g,a,b=>
  if find g a=find g b then some g
  else if dQ (aX g (find g a))then some (link g (find g a) (find g b))
  else if dQ (aX g (find g b))then some (link g (find g b) (find g a))
  else if(aX g (find g a)).sort≠(aX g (find g b)).sort\/(aX g (find g a)).n≠(aX g (find g b)).n\/(aX g (find g a)).parts.length≠(aX g (find g b)).parts.length then none
  else uE (DK k) (link g (find g a) (find g b)) ((aX g (find g a)).parts.zip (aX g (find g b)).parts)
structure Eqd (g:Gr) (P:(Nat->Nd)->Prop) (r:Option Gr):Prop where
 no:r=none->∀t,Model g t->¬P t
 yes:∀g',r=some g'->Wf g'/\g'.length=g.length/\fm g<=fm g'/\(∀i,(aX g' i).sort=(aX g i).sort/\(aX g' i).n=(aX g i).n/\(aX g' i).parts=(aX g i).parts)/\∀t,Model g' t↔Model g t/\P t
theorem Eqd.all{eq:Gr->Nat->Nat->Option Gr}{c:Nat}:∀(l:List (Nat×Nat)) (g:Gr),Wf g->c<=fm g->(∀q∈l,q.1<g.length/\q.2<g.length)->
 (∀(h:Gr) (a b:Nat),Wf h->c<=fm h->h.length=g.length->a<h.length->b<h.length->Eqd h (λt=>t a=t b) (eq h a b))->Eqd g (λt=>∀q∈l,t q.1=t q.2) (uE eq g l)
 |[],g,hw,_,_,_=>⟨λh=>(by cases h),λg' h=>by
  cases h;exact⟨hw,rfl,Nat.le_refl _,λi=>⟨rfl,rfl,rfl⟩,λt=>⟨λh=>⟨h,λq d=>by cases d⟩,λh=>h.1⟩⟩⟩
 |(a,b)::l,g,hw,hc,k,he=>by
  have m:=k (a,b) (by simp);have n:=he g a b hw hc rfl m.1 m.2;unfold uE;cases h:eq g a b with
  |none=>
   refine⟨λ_ t e d=>n.no h t e (d (a,b) (by simp)),λg' h'=>by cases h'⟩
  |some g1=>
   obtain⟨w1,f,A,s1,o⟩:=n.yes g1 h;have p:=Eqd.all (eq:=eq) (c:=c) l g1 w1 (by omega) (λq d=>by rw[f];exact k q (by simp[d])) (λx a b j xR r=>he x a b j xR (by rw[r,f]));refine⟨λs t e d=>p.no s t ((o t).2 ⟨e,d (a,b) (by simp)⟩) λq u=>d q (by simp[u]),λg' v=> ?_⟩;obtain⟨w,y,B,s2,z⟩:=p.yes g' v;refine⟨w,by rw[y,f],by omega,λi=>⟨(s2 i).1.trans (s1 i).1,(s2 i).2.1.trans (s1 i).2.1,(s2 i).2.2.trans (s1 i).2.2⟩,λt=> ?_⟩;rw[z,o];constructor
   ·rintro⟨⟨j,a2⟩,a3⟩;refine⟨j,λq d=> ?_⟩;rcases aE.1 d with rfl|d
    ·exact a2
    ·exact a3 q d
   ·rintro⟨j,a2⟩;exact⟨⟨j,a2 (a,b) (by simp)⟩,λq d=>a2 q (by simp[d])⟩
theorem DL{α:Type}(t:Nat->α):∀(l m:List Nat),l.length=m.length->(l.map t=m.map t↔∀q∈l.zip m,t q.1=t q.2)
 |[],[],_=>by simp
 |[],_::_,h=>by simp at h
 |_::_,[],h=>by simp at h
 |a::l,b::m,h=>by
  rw[bz,bz,List.zip_cons_cons];have d:=DL t l m (by simpa using h);constructor
  ·intro e q c;injection e with f g;rcases aE.1 c with rfl|c
   ·exact f
   ·exact d.1 g q c
  ·intro e;rw[e (a,b) (by simp),d.2 λq c=>e q (by simp[c])]
theorem DM:∀(k:Nat) (g:Gr) (a b:Nat),Wf g->g.length-fm g<k->a<g.length->b<g.length->Eqd g (λt=>t a=t b) (DK k g a b)
 |0,_,_,_,_,h,_,_=>ay h (ax _)
 |k+1,g,a,b,hw,S,B,C=>by
  have sC:=hw.il B;have uF:=hw.il C;have j:=hw.ends a B;have n:=hw.ends b C;have f:∀t,Model g t->(t a=t b↔t (find g a)=t (find g b)):=λt d=>by rw[d.find hw B,d.find hw C]
  have o:∀(x y i:Nat),(aX (link g x y) i).sort=(aX g i).sort/\(aX (link g x y) i).n=(aX g i).n/\(aX (link g x y) i).parts=(aX g i).parts:=λx y i=>by
   rw[fq]
   split
   ·rename_i e;rw[<-e.1];exact⟨rfl,rfl,rfl⟩
   ·exact⟨rfl,rfl,rfl⟩
  unfold DK
  split
  ·rename_i p;refine⟨λh=>(by cases h),λg' h=> ?_⟩;cases h;exact⟨hw,rfl,Nat.le_refl _,λi=>⟨rfl,rfl,rfl⟩,λt=>⟨λh=>⟨h,(f t h).2 (by rw[p])⟩,λh=>h.1⟩⟩
  ·rename_i p
   split
   ·refine⟨λh=>(by cases h),λg' h=> ?_⟩;cases h;refine⟨hw.link sC uF j n p,dP _ _ _,by rw[lJ sC j];omega,o _ _,λt=> ?_⟩;rw[sB sC j];exact⟨λh=>⟨h.1,(f t h.1).2 h.2⟩,λh=>⟨h.1,(f t h.1).1 h.2⟩⟩
   ·rename_i D
    split
    ·refine⟨λh=>(by cases h),λg' h=> ?_⟩;cases h;refine⟨hw.link uF sC n j (Ne.symm p),dP _ _ _,by rw[lJ uF n];omega,o _ _,λt=> ?_⟩;rw[sB uF n];exact⟨λh=>⟨h.1,(f t h.1).2 h.2.symm⟩,λh=>⟨h.1,((f t h.1).1 h.2).symm⟩⟩
    ·rename_i xe;have D:dQ (aX g (find g a))=false:=by simpa using D
     have xe:dQ (aX g (find g b))=false:=by simpa using xe
     have r:∀t,Model g t->(t a=t b↔(aX g (find g a)).sort=(aX g (find g b)).sort/\(aX g (find g a)).n=(aX g (find g b)).n/\(aX g (find g a)).parts.map t=(aX g (find g b)).parts.map t):=λt d=>by
      rw[f t d,d.node _ sC D,d.node _ uF xe];constructor
      ·intro e;injection e with s w z;exact⟨s,w,Fo.adt z⟩
      ·rintro⟨s,w,z⟩;rw[s,w,z]
     split
     ·rename_i eC;refine⟨λ_ t d e=> ?_,λg' h=>by cases h⟩;obtain⟨s,w,z⟩:=(r t d).1 e;rcases eC with h|h|h
      ·exact h s
      ·exact h w
      ·exact h (by have:=congrArg List.length z;rwa [aW,aW]at this)
     ·rename_i eC;have E:(aX g (find g a)).sort=(aX g (find g b)).sort:=by
       apply Classical.byContradiction;intro h;exact eC (.inl h)
      have F:(aX g (find g a)).n=(aX g (find g b)).n:=by
       apply Classical.byContradiction;intro h;exact eC (.inr (.inl h))
      have hp:(aX g (find g a)).parts.length=(aX g (find g b)).parts.length:=by
       apply Classical.byContradiction;intro h;exact eC (.inr (.inr h))
      have H:=hw.link sC uF j n p;have I:=lJ (b:=find g b) sC j;have t_:=dP g (find g a) (find g b);have hle:=DJ (link g (find g a) (find g b));rw[I,t_]at hle;have J:∀q∈(aX g (find g a)).parts.zip (aX g (find g b)).parts,q.1<(link g (find g a) (find g b)).length/\q.2<(link g (find g a) (find g b)).length:=λq hq=>by
       exact an3
      have l:=Eqd.all (eq:=DK k) (c:=fm (link g (find g a) (find g b))) ((aX g (find g a)).parts.zip (aX g (find g b)).parts) (link g (find g a) (find g b)) H (Nat.le_refl _) J
       (λx u v K xR L hu M=>DM k x u v K (by rw[L,t_];omega) hu M)
      have A:∀t,Model g t->(t a=t b↔∀q∈(aX g (find g a)).parts.zip (aX g (find g b)).parts,t q.1=t q.2):=λt d=>by
       rw[r t d,<-DL t _ _ hp];exact⟨λh=>h.2.2,λh=>⟨E,F,h⟩⟩
      refine⟨λN t d e=>l.no N t ((sB sC j).2 ⟨d,(f t d).1 e⟩) ((A t d).1 e),λg' O=> ?_⟩;obtain⟨P,Q,T,s2,R⟩:=l.yes g' O;refine⟨P,by rw[Q,t_],by omega,λi=>⟨(s2 i).1.trans (o _ _ i).1,(s2 i).2.1.trans (o _ _ i).2.1,(s2 i).2.2.trans (o _ _ i).2.2⟩,λt=> ?_⟩;rw[R,sB sC j];constructor
      ·rintro⟨⟨m,l⟩,_⟩;exact⟨m,(f t m).2 l⟩
      ·rintro⟨m,l⟩;exact⟨⟨m,(f t m).1 l⟩,(A t m).1 l⟩
def Fo.calls(f:Nat):Fo->Bool
 | .nil=>false
 | .cons a n k r=>((a==4||a==5)&&n==(f:Int))||k.calls f||r.calls f
inductive Rv (c:Nat->Nat->Bool):Nat->Nat->Prop where
 |one {i j:Nat}:c i j=true->Rv c i j
 |more {i k j:Nat}:c i k=true->Rv c k j->Rv c i j
theorem Rv.trans(h:Rv c i k)(h':Rv c k j):Rv c i j:=by
 induction h with
 |one h=>exact .more h h'
 |more h _ a=>exact .more h (a h')
theorem Rv.low(hc:∀i j,c i j=true->i<n/\j<n)(h:Rv c i j):i<n/\j<n:=by
 induction h with
 |one h=>exact hc _ _ h
 |more h _ a=>exact⟨(hc _ _ h).1,a.2⟩
inductive rl (c:Nat->Nat->Bool) (b:Nat):Nat->Nat->Prop where
 |one {i j:Nat}:c i j=true->rl c b i j
 |more {i k j:Nat}:k<b->c i k=true->rl c b k j->rl c b i j
theorem rl.mono(d:b<=a)(h:rl c b i j):rl c a i j:=by
 induction h with
 |one h=>exact .one h
 |more e f _ g=>exact .more (aC e d) f g
theorem rl.join(a:k<b)(h:rl c b i k)(h':rl c b k j):rl c b i j:=by
 induction h with
 |one h=>exact .more a h h'
 |more d e _ f=>exact .more d e (f a h')
theorem rl.succ:rl c (b+1) i j↔rl c b i j\/(rl c b i b/\rl c b b j):=by
 constructor
 ·intro h
  induction h with
  |one h=>exact .inl (.one h)
  | @more i k j g e _ a=>
   rcases Nat.lt_or_ge k b with f|f
   ·rcases a with a|⟨a,d⟩
    ·exact .inl (.more f e a)
    ·exact .inr ⟨.more f e a,d⟩
   ·have:k=b:=by omega
    subst this;rcases a with a|⟨_,d⟩
    ·exact .inr ⟨.one e,a⟩
    ·exact .inr ⟨.one e,d⟩
 ·rintro(h|⟨h,h'⟩)
  ·exact h.mono (by omega)
  ·exact rl.join (by omega) (h.mono (by omega)) (h'.mono (by omega))
theorem rl.pth(hc:∀i j,c i j=true->i<n/\j<n):rl c n i j↔Rv c i j:=by
 constructor
 ·intro h
  induction h with
  |one h=>exact .one h
  |more _ a _ b=>exact .more a b
 ·intro h
  induction h with
  |one h=>exact .one h
  |more a _ b=>exact .more (hc _ _ a).2 a b
def adu(k:Nat)(c:Nat->Nat->Bool):Nat->Nat->Bool:=λi j=>c i j||(c i k&&c k j)
def fwN:Nat->(Nat->Nat->Bool)->Nat->Nat->Bool
 |0,c=>c
 |k+1,c=>adu k (fwN k c)
theorem C4(c:Nat->Nat->Bool):∀(k i j:Nat),fwN k c i j=true↔rl c k i j
 |0,i,j=>by
  constructor
  ·exact λh=>.one h
  ·intro h;cases h with
   |one h=>exact h
   |more h _ _=>exact ay h (ax _)
 |k+1,i,j=>by
  have e:fwN (k+1) c i j=(fwN k c i j||(fwN k c i k&&fwN k c k j)):=rfl;rw[rl.succ,<-C4 c k,<-C4 c k,<-C4 c k,e];simp
def AQ(n:Nat)(c:Nat->Nat->Bool)(i j:Nat):Bool:=fwN n c i j
theorem mL(hc:∀i j,c i j=true->i<n/\j<n):AQ n c i j=true↔Rv c i j:=(C4 c n i j).trans (rl.pth hc)
theorem IL(hc:∀i j,c i j=true->i<n/\j<n)(h:AQ n c i k=true)(h':AQ n c k j=true):AQ n c i j=true:=
 (mL hc).2 (((mL hc).1 h).trans ((mL hc).1 h'))
theorem Rw{d:Nat->Nat->Bool}(hc:∀i j,c i j=true->i<n/\j<n)(a:∀i j,c i j=true->d i j=true)(b:∀i j,d i j=true->Rv c i j)(e:∀i k j,d i k=true->d k j=true->d i j=true)(i j:Nat):d i j=AQ n c i j:=by
 rw[aP,mL hc];refine⟨b i j,λh=> ?_⟩
 induction h with
 |one h=>exact a _ _ h
 |more h _ f=>exact e _ _ _ (a _ _ h) f
def oE(R:Nat->Nat->Bool)(n k:Nat):List Nat:=(List.range n).filter λi=>i==k||(R k i&&R i k)
def lK(R:Nat->Nat->Bool)(n:Nat)(done:Nat->Bool)(k:Nat):Bool:= !done k&&(List.range n).all λi=> !R k i||done i||i==k||R i k
def jB(R:Nat->Nat->Bool)(n:Nat):Nat->(Nat->Bool)->List (List Nat)
 |0,_=>[]
 |m+1,done=>match(List.range n).find? (lK R n done)with
  |none=>[]
  |some k=>oE R n k::jB R n m λi=>done i||(oE R n k).contains i
theorem mM:i∈oE R n k↔i<n/\(i=k\/(R k i=true/\R i k=true)):=by
 unfold oE;simp[List.mem_filter]
theorem sD{done:Nat->Bool}:lK R n done k=true↔done k=false/\∀i,i<n->R k i=true->done i=true\/i=k\/R i k=true:=by
 unfold lK;simp only[ak,Bool.not_eq_true',aK,bq,b7,b_];refine and_congr_right λ_=>⟨λh i hi a=> ?_,λh i hi=> ?_⟩
 ·rcases h i hi with((h|h)|h)|h
  ·rw[a]at h;cases h
  ·exact .inl h
  ·exact .inr (.inl h)
  ·exact .inr (.inr h)
 ·cases a:R k i
  ·exact .inl (.inl (.inl rfl))
  ·rcases h i hi a with h|h|h
   ·exact .inl (.inl (.inr h))
   ·exact .inl (.inr h)
   ·exact .inr h
def IM(R:Nat->Nat->Bool)(n k:Nat):Nat:=((List.range n).filter λi=>i==k||R k i).length
theorem filter_lt{q:Nat->Bool}(h:∀i,p i=true->q i=true){x:Nat}:∀{l:List Nat},x∈l->p x=false->q x=true->(l.filter p).length<(l.filter q).length:=by
 have hle:∀l:List Nat,(l.filter p).length<=(l.filter q).length:=λl=>by
  induction l with
  |nil=>exact lR
  |cons a l d=>
   cases hp:p a
   ·rw[List.filter_cons_of_neg (by simp[hp])];cases b:q a
    ·rw[List.filter_cons_of_neg (by simp[b])];exact d
    ·rw[List.filter_cons_of_pos b,aD];omega
   ·rw[List.filter_cons_of_pos hp,List.filter_cons_of_pos (h a hp),aD,aD];omega
 intro l c hp b
 induction l with
 |nil=>cases c
 |cons a l d=>
  rcases aE.1 c with rfl|c
  ·rw[List.filter_cons_of_neg (by simp[hp]),List.filter_cons_of_pos b,aD];have:=hle l;omega
  ·have:=d c;cases e:p a
   ·rw[List.filter_cons_of_neg (by simp[e])];cases f:q a
    ·rw[List.filter_cons_of_neg (by simp[f])];exact this
    ·rw[List.filter_cons_of_pos f,aD];omega
   ·rw[List.filter_cons_of_pos e,List.filter_cons_of_pos (h a e),aD,aD];omega
theorem Uz(p:∀i k j,R i k=true->R k j=true->R i j=true){done:Nat->Bool}:∀(z k:Nat),IM R n k<=z->k<n->done k=false->∃m,m<n/\lK R n done m=true:=by
 intro z
 induction z with
 |zero=>
  intro k l a o;exfalso;have:k∈(List.range n).filter λi=>i==k||R k i:=by simp[List.mem_filter,a]
  have:=List.length_pos_of_mem this;unfold IM at l;omega
 |succ z q=>
  intro k l a o;cases f:lK R n done k
  ·have r:¬∀i,i<n->R k i=true->done i=true\/i=k\/R i k=true:=λh=>by
    rw[sD.2 ⟨o,h⟩]at f;cases f
   have:∃i,i<n/\R k i=true/\done i=false/\i≠k/\R i k=false:=by
    apply Classical.byContradiction;intro d;refine r λi hi s=> ?_;cases b:done i
    ·by_cases c:i=k
     ·exact .inr (.inl c)
     ·cases g:R i k
      ·exact ay ⟨i,hi,s,b,c,g⟩ d
      ·exact .inr (.inr rfl)
    ·exact .inl rfl
   obtain⟨i,hi,b,c,g,s⟩:=this;refine q i ?_ hi c;have:IM R n i<IM R n k:=by
    refine filter_lt (x:=k) (λj d=> ?_) (bq.2 a) ?_ (by simp)
    ·simp only[b7,b_]at d |-;rcases d with rfl|d
     ·exact .inr b
     ·exact .inr (p _ _ _ b d)
    ·simp[s];exact λe=>g e.symm
   omega
  ·exact⟨k,a,f⟩
def uG(n:Nat)(done:Nat->Bool):Nat:=((List.range n).filter done).length
theorem UA{done:Nat->Bool}(h:uG n done<n):∃k,k<n/\done k=false:=by
 apply Classical.byContradiction;intro a;have:(List.range n).filter done=List.range n:=List.filter_eq_self.2 λk b=>by
  cases h:done k
  ·exact ay ⟨k,bq.1 b,h⟩ a
  ·rfl
 unfold uG at h;rw[this]at h;simp at h
theorem AT{done:Nat->Bool}(h:uG n done=n):∀k,k<n->done k=true:=by
 have h':(List.range n).filter done=List.range n:=List.filter_sublist.eq_of_length (by rw[List.length_range];exact h);intro k a;exact List.filter_eq_self.1 h' k (bq.2 a)
theorem FZ(c:∀i k j,R i k=true->R k j=true->R i j=true){done:Nat->Bool}:(List.range n).find? (lK R n done)=none↔uG n done=n:=by
 constructor
 ·intro h;apply Classical.byContradiction;intro e;have hle:uG n done<=n:=by unfold uG;have:=List.length_filter_le done (List.range n);simpa using this
  obtain⟨k,a,d⟩:=UA (n:=n) (done:=done) (by omega);obtain⟨m,hm,b⟩:=Uz c _ k lR a d;rw[List.find?_eq_none]at h;exact h m (bq.2 hm) b
 ·intro h;rw[List.find?_eq_none];intro k a b;have:=AT h k (bq.1 a);rw[(sD.1 b).1]at this;cases this
def Nr(R:Nat->Nat->Bool)(n:Nat)(done:Nat->Bool):Prop:=∀i j,i<n->j<n->done i=true->R i j=true->R j i=true->done j=true
theorem Kq(e:∀i k j,R i k=true->R k j=true->R i j=true){done:Nat->Bool}(h:Nr R n done)(k:Nat):Nr R n λi=>done i||(oE R n k).contains i:=by
 intro i j hi b a c d;simp only[b7,bh,mM]at a |-;rcases a with a|⟨_,rfl|⟨f,g⟩⟩
 ·exact .inl (h i j hi b a c d)
 ·exact .inr ⟨b,.inr ⟨c,d⟩⟩
 ·exact .inr ⟨b,.inr ⟨e _ _ _ f c,e _ _ _ d g⟩⟩
inductive tP (R:Nat->Nat->Bool) (n:Nat):(Nat->Bool)->List (List Nat)->Prop where
 |nil {done:Nat->Bool}:(∀k,k<n->done k=true)->tP R n done []
 |cons {done:Nat->Bool} {l:List Nat} {gs:List (List Nat)}:l.Nodup->l≠[]->(∀f∈l,f<n/\done f=false)->(∀f∈l,∀j,j<n->R f j=true->done j=true\/j∈l)->
  tP R n (λi=>done i||l.contains i) gs->tP R n done (l::gs)
theorem Ns{done:Nat->Bool}{l:List Nat}(a:k<n)(b:done k=false)(c:k∈l):uG n done<uG n (λi=>done i||l.contains i):=
 filter_lt (x:=k) (λi h=>by simp[h]) (bq.2 a) b (by simp[c])
theorem DN(e:∀i k j,R i k=true->R k j=true->R i j=true):∀(m:Nat) (done:Nat->Bool),Nr R n done->n<=m+uG n done->tP R n done (jB R n m done)
 |0,done,_,hm=>.nil (AT (by
  have hle:uG n done<=n:=by unfold uG;have:=List.length_filter_le done (List.range n);simpa using this
  omega))
 |m+1,done,hc,hm=>by
  unfold jB;cases a:(List.range n).find? (lK R n done)with
  |none=>exact .nil (AT ((FZ e).1 a))
  |some k=>
   have l:k<n:=bq.1 (List.mem_of_find?_eq_some a);obtain⟨g,q⟩:=sD.1 (List.find?_some a);have c:k∈oE R n k:=mM.2 ⟨l,.inl rfl⟩;refine .cons (List.nodup_range.filter _) (List.ne_nil_of_mem c) (λf a=> ?_) (λf a j o d=> ?_) (DN e m _ (Kq e hc k) ?_)
   ·obtain⟨p,b⟩:=mM.1 a;refine⟨p,?_⟩;rcases b with rfl|⟨b,r⟩
    ·exact g
    ·cases h:done f
     ·rfl
     ·rw[hc f k p l h r b]at g;cases g
   ·obtain⟨p,b⟩:=mM.1 a;have key:R k j=true:=by
     rcases b with rfl|⟨b,_⟩
     ·exact d
     ·exact e _ _ _ b d
    rcases q j o key with h|h|h
    ·exact .inl h
    ·exact .inr (mM.2 ⟨o,.inl h⟩)
    ·exact .inr (mM.2 ⟨o,.inr ⟨key,h⟩⟩)
   ·have:=Ns (done:=done) l g c;omega
def IN(R:Nat->Nat->Bool)(n:Nat):List (List Nat):=jB R n n λ_=>false
theorem Nt(a:∀i k j,R i k=true->R k j=true->R i j=true):tP R n (λ_=>false) (IN R n):=
 DN a n _ (λ_ _ _ _ h=>by cases h) (by omega)
theorem oW{g:Gr}(hw:Wf g)(c:a<g.length)(d:(aX g a).to=none)(f:(aX g b).to=none)(j:a≠b)(hi:i<g.length):find (link g a b) i=if find g i=a then b else find g i:=by
 unfold find;rw[lJ c d]
 split
 ·rename_i e;exact sA c d f j _ _ e
 ·rename_i e;have k:fD g (fm g+1) i=fD g (fm g) i:=sy _ 1 i (hw.ends i hi);rw[xQ c d f j _ _ (by rw[k];exact e),k]
theorem AU{g:Gr}(h:(aX g n).to=none):find g n=n:=xP h _
theorem AV{g:Gr}(hw:Wf g)(a:n<g.length):find g (find g n)=find g n:=AU (hw.ends n a)
theorem ZG{g:Gr}(hw:Wf g){m:Nat}(a:n<g.length)(h:(aX g n).to=some m):find g n=find g m:=by
 have e:fD g (fm g+1) n=fD g (fm g) m:=by
  conv=>lhs;unfold fD
  rw[h]
 rw[hw.ph a (Nat.le_succ _)]at e;exact e
theorem vU{g:Gr}(hw:Wf g)(c:a<g.length)(d:(aX g a).to=none)(e:(aX g b).to=none)(f:a≠b){x y:Nat}(i:x<g.length)(hy:y<g.length)(h:find g x=find g y):find (link g a b) x=find (link g a b) y:=by
 rw[oW hw c d e f i,oW hw c d e f hy,h]
def Dc(g:Gr)(E:Nat->Prop):Prop:=∀i,i<g.length->¬E i->dQ (aX g i)=false->∀m,(aX g i).to=some m->
 dQ (aX g m)=false/\(aX g i).sort=(aX g m).sort/\(aX g i).n=(aX g m).n/\(aX g i).parts.length=(aX g m).parts.length/\∀q∈(aX g i).parts.zip (aX g m).parts,find g q.1=find g q.2
structure AW (g:Gr) (l:List (Nat×Nat)) (g':Gr):Prop where
 keep:∀x y,x<g.length->y<g.length->find g x=find g y->find g' x=find g' y
 made:∀q∈l,find g' q.1=find g' q.2
 dc:∀E,Dc g E->Dc g' E
 tos:∀x m,(aX g x).to=some m->(aX g' x).to=some m
theorem DO{g:Gr}(c:(aX g a).to=none){x m:Nat}(h:(aX g x).to=some m):(aX (link g a b) x).to=some m:=by
 rw[fq,ah λe=>by rw[<-e.1,c]at h;cases h];exact h
theorem xS{v w:Vx}(h:v.sort=w.sort):dQ v=dQ w:=by unfold dQ;rw[h]
theorem GC{g:Gr}:dQ (aX (link g a b) i)=dQ (aX g i):=by
 rw[fq]
 split
 ·rename_i e;obtain⟨rfl,_⟩:=e;rfl
 ·rfl
theorem lP(g:Gr)(x y i:Nat):(aX (link g x y) i).sort=(aX g i).sort/\(aX (link g x y) i).n=(aX g i).n/\(aX (link g x y) i).parts=(aX g i).parts:=by
 rw[fq]
 split
 ·rename_i e;obtain⟨rfl,_⟩:=e;exact⟨rfl,rfl,rfl⟩
 ·exact⟨rfl,rfl,rfl⟩
theorem IP{g:Gr}(hw:Wf g)(l:a<g.length)(n:(aX g a).to=none)(o:(aX g b).to=none)(p:a≠b){E:Nat->Prop}(h:Dc g E):Dc (link g a b) (λi=>E i\/(i=a/\dQ (aX g a)=false)):=by
 intro i hi f c m hm;rw[dP]at hi;rw[GC]at c;have d:i≠a:=λe=>f (.inr ⟨e,by rw[<-e];exact c⟩);have j:(aX g i).to=some m:=by
  rw[fq,ah λe=>d e.1.symm]at hm;exact hm
 obtain⟨r,s,t,u,v⟩:=h i hi (λe=>f (.inl e)) c m j;obtain⟨w,x,y⟩:=lP g a b i;obtain⟨f1,f2,f3⟩:=lP g a b m;rw[GC,w,x,y,f1,f2,f3];refine⟨r,s,t,u,λq k=> ?_⟩;have:=List.of_mem_zip k;exact vU hw l n o p (hw.parts i hi _ this.1) (hw.parts m (hw.to i hi m j) _ this.2) (v q k)
theorem AW.all{eq:Gr->Nat->Nat->Option Gr}{c:Nat}:∀(l:List (Nat×Nat)) (g g':Gr),Wf g->c<=fm g->(∀q∈l,q.1<g.length/\q.2<g.length)->
 (∀(h:Gr) (a b:Nat),Wf h->c<=fm h->h.length=g.length->a<h.length->b<h.length->Eqd h (λt=>t a=t b) (eq h a b)/\∀h',eq h a b=some h'->AW h [(a,b)] h')->uE eq g l=some g'->AW g l g'
 |[],g,g',_,_,_,_,h=>by cases h;exact⟨λ_ _ _ _ h=>h,λq d=>(by cases d),λ_ h=>h,λ_ _ h=>h⟩
 |(a,b)::l,g,g',hw,hc,r,he,h=>by
  have j:=r (a,b) (by simp);obtain⟨s,p⟩:=he g a b hw hc rfl j.1 j.2;unfold uE at h;cases k:eq g a b with
  |none=>rw[k]at h;cases h
  |some g1=>
   rw[k]at h;obtain⟨w1,f,w,s1,z⟩:=s.yes g1 k;have n:=p g1 k;have i:=AW.all (eq:=eq) (c:=c) l g1 g' w1 (by omega) (λq d=>by rw[f];exact r q (by simp[d])) (λx a b o xR u=>he x a b o xR (by rw[u,f])) h;refine⟨λx y o hy e=>i.keep x y (by rw[f];exact o) (by rw[f];exact hy) (n.keep x y o hy e),λq d=> ?_,λE v=>i.dc E (n.dc E v),λx m e=>i.tos x m (n.tos x m e)⟩;rcases aE.1 d with rfl|d
   ·exact i.keep _ _ (by rw[f];exact j.1) (by rw[f];exact j.2) (n.made (a,b) (by simp))
   ·exact i.made q d
theorem DP:∀(k:Nat) (g g':Gr) (a b:Nat),Wf g->g.length-fm g<k->a<g.length->b<g.length->DK k g a b=some g'->AW g [(a,b)] g'
 |0,_,_,_,_,_,h,_,_,_=>ay h (ax _)
 |k+1,g,g',a,b,hw,T,p,r,h=>by
  have sC:=hw.il p;have uF:=hw.il r;have f:=hw.ends a p;have j:=hw.ends b r;unfold DK at h
  split at h
  ·rename_i d;cases h;exact⟨λ_ _ _ _ h=>h,λq hq=>by rw[aJ.1 hq];exact d,λ_ h=>h,λ_ _ h=>h⟩
  ·rename_i d;have s:∀q∈[(a,b)],find (link g (find g a) (find g b)) q.1=find (link g (find g a) (find g b)) q.2:=λq hq=>by
    rw[aJ.1 hq];show find (link g (find g a) (find g b)) a=find (link g (find g a) (find g b)) b;rw[oW hw sC f j d p,oW hw sC f j d r,aq rfl,ah (Ne.symm d)]
   split at h
   ·rename_i B;cases h;refine⟨λx y l hy e=>vU hw sC f j d l hy e,s,λE t=> ?_,λx m e=>DO f e⟩;intro i hi n w m hm;refine IP hw sC f j d t i hi (λe=> ?_) w m hm;rcases e with e|⟨_,e⟩
    ·exact n e
    ·rw[B]at e;cases e
   ·split at h
    ·rename_i xe;cases h;refine⟨λx y l hy e=>vU hw uF j f (Ne.symm d) l hy e,λq hq=> ?_,λE t=> ?_,λx m e=>DO j e⟩
     ·rw[aJ.1 hq];show find (link g (find g b) (find g a)) a=find (link g (find g b) (find g a)) b;rw[oW hw uF j f (Ne.symm d) p,oW hw uF j f (Ne.symm d) r,aq rfl,ah d]
     ·intro i hi n w m hm;refine IP hw uF j f (Ne.symm d) t i hi (λe=> ?_) w m hm;rcases e with e|⟨_,e⟩
      ·exact n e
      ·rw[xe]at e;cases e
    ·rename_i B xe;have B:dQ (aX g (find g a))=false:=by simpa using B
     have xe:dQ (aX g (find g b))=false:=by simpa using xe
     split at h
     ·cases h
     ·rename_i eC;have M:(aX g (find g a)).sort=(aX g (find g b)).sort:=by
       apply Classical.byContradiction;intro h;exact eC (.inl h)
      have N:(aX g (find g a)).n=(aX g (find g b)).n:=by
       apply Classical.byContradiction;intro h;exact eC (.inr (.inl h))
      have hp:(aX g (find g a)).parts.length=(aX g (find g b)).parts.length:=by
       apply Classical.byContradiction;intro h;exact eC (.inr (.inr h))
      have J:=hw.link sC uF f j d;have O:=lJ (b:=find g b) sC f;have t_:=dP g (find g a) (find g b);have hle:=DJ (link g (find g a) (find g b));rw[O,t_]at hle;have K:∀q∈(aX g (find g a)).parts.zip (aX g (find g b)).parts,q.1<(link g (find g a) (find g b)).length/\q.2<(link g (find g a) (find g b)).length:=λq hq=>by
       exact an3
      have o:=AW.all (eq:=DK k) (c:=fm (link g (find g a) (find g b))) ((aX g (find g a)).parts.zip (aX g (find g b)).parts) (link g (find g a) (find g b)) g' J (Nat.le_refl _) K
       (λx u v l xR C hu D=>⟨DM k x u v l (by rw[C,t_];omega) hu D,λP I=>DP k x P u v l (by rw[C,t_];omega) hu D I⟩) h
      have Q:=Eqd.all (eq:=DK k) (c:=fm (link g (find g a) (find g b))) ((aX g (find g a)).parts.zip (aX g (find g b)).parts) (link g (find g a) (find g b)) J (Nat.le_refl _) K
       (λx u v l xR C hu D=>DM k x u v l (by rw[C,t_];omega) hu D)
      obtain⟨U,V,W,s2,_⟩:=Q.yes g' h;refine⟨λx y l hy e=>o.keep x y (by rw[t_];exact l) (by rw[t_];exact hy) (vU hw sC f j d l hy e),λq hq=> ?_,λE t=> ?_,λx m e=>o.tos x m (DO f e)⟩
      ·have L:=s q hq;rw[aJ.1 hq]at L |-;exact o.keep _ _ (by rw[t_];exact p) (by rw[t_];exact r) L
      ·have R:=o.dc _ (IP hw sC f j d t);intro i hi n w m hm;by_cases z:i=find g a
       ·subst z;have S:(aX g' (find g a)).to=some (find g b):=o.tos _ _ (by rw[fq,aq ⟨rfl,sC⟩]);rw[S]at hm;cases hm;have F:=s2 (find g a);have A:=s2 (find g b);have H:=lP g (find g a) (find g b) (find g a);have lb:=lP g (find g a) (find g b) (find g b);refine⟨?_,?_,?_,?_,λq hq=> ?_⟩
        ·rw[xS (A.1.trans lb.1)];exact xe
        ·rw[F.1,A.1,H.1,lb.1];exact M
        ·rw[F.2.1,A.2.1,H.2.1,lb.2.1];exact N
        ·rw[F.2.2,A.2.2,H.2.2,lb.2.2];exact hp
        ·rw[F.2.2,A.2.2,H.2.2,lb.2.2]at hq;exact o.made q hq
       ·exact R i hi (λe=>by rcases e with e|⟨e,_⟩;exact n e;exact z e) w m hm
def iu(l:List Nat)(i:Nat):Nat:=l[i]?.getD 0
theorem DQ(l:List Nat)(a x i:Nat):iu (l.set a x) i=if a=i/\a<l.length then x else iu l i:=by
 unfold iu;rw[List.getElem?_set];by_cases h:a=i
 ·subst h;by_cases b:a<l.length
  ·simp[b]
  ·simp[b]
 ·simp[h]
def kj(l:List Nat):Nat:=(l.filter λx=>x==0).length
theorem AX:∀(l:List Nat) (a x:Nat),a<l.length->iu l a=0->x≠0->kj (l.set a x)+1=kj l
 |[],a,_,h,_,_=>by simp at h
 |y::l,0,x,_,b,c=>by
  have b:y=0:=b;unfold kj;rw[bU,bp,bp,ah (by simpa using c),aq (by simp[b])];simp
 |y::l,a+1,x,h,b,c=>by
  have d:=AX l a x (by simpa using h) (by simpa [iu] using b) c;unfold kj at d |-;rw[bV,bp,bp]
  split
  ·rw[aD,aD];omega
  ·exact d
theorem DR:∀(l:List Nat) (a x:Nat),iu l a≠0->x≠0->kj (l.set a x)=kj l
 |[],a,_,h,_=>by simp[iu]at h
 |y::l,0,x,b,c=>by
  have b:y≠0:=b;unfold kj;rw[bU,bp,bp,ah (by simpa using c),ah (by simpa using b)]
 |y::l,a+1,x,b,c=>by
  have d:=DR l a x (by simpa [iu] using b) c;unfold kj at d |-;rw[bV,bp,bp]
  split
  ·rw[aD,aD,d]
  ·exact d
def n_(vis:List Nat->Nat->Option (List Nat)):List Nat->List Nat->Option (List Nat)
 |st,[]=>some st
 |st,p::ps=>match vis st p with|none=>none|some xf=>n_ vis xf ps
def jC:Nat->Gr->List Nat->Nat->Option (List Nat)
 |0,_,_,_=>none
 |k+1,g,st,n=>
  if iu st (find g n)=1 then none
  else if iu st (find g n)=2 then some st
  else match n_ (jC k g) (st.set (find g n) 1) (aX g (find g n)).parts with
   |none=>none
   |some xf=>some (xf.set (find g n) 2)
def eX(g:Gr):Option (List Nat):=n_ (jC (g.length+1) g) (List.replicate g.length 0) (List.range g.length)
structure Vis (g:Gr) (st xf:List Nat):Prop where
 len:xf.length=st.length
 now:∀m,iu xf m=1↔iu st m=1
 done:∀m,iu st m=2->iu xf m=2
 low:∀m,iu xf m<=2
 kj:kj xf<=kj st
theorem Vis.trans{g:Gr}{a b c:List Nat}(h:Vis g a b)(h':Vis g b c):Vis g a c:=
 ⟨h'.len.trans h.len,λm=>(h'.now m).trans (h.now m),λm e=>h'.done m (h.done m e),h'.low,ai h'.kj h.kj⟩
def AY(g:Gr)(st:List Nat)(a:Nat->Nat):Prop:=∀m,iu st m=2->∀p∈(aX g m).parts,iu st (find g p)=2/\a (find g p)<a m
theorem AZ{g:Gr}{vis:List Nat->Nat->Option (List Nat)}:∀(ps:List Nat) (st xf:List Nat),(∀m,iu st m<=2)->
 (∀p∈ps,∀s s',s.length=st.length->(∀m,iu s m<=2)->vis s p=some s'->Vis g s s'/\iu s' (find g p)=2/\∀b,AY g s b->∃a,AY g s' a/\∀m,iu s m=2->a m=b m)->n_ vis st ps=some xf->
 Vis g st xf/\(∀p∈ps,iu xf (find g p)=2)/\∀b,AY g st b->∃a,AY g xf a/\∀m,iu st m=2->a m=b m
 |[],st,xf,d,_,h=>by
  cases h;exact⟨⟨rfl,λ_=>Iff.rfl,λ_ h=>h,d,Nat.le_refl _⟩,λp hp=>(by cases hp),λb e=>⟨b,e,λ_ _=>rfl⟩⟩
 |p::ps,st,xf,d,k,h=>by
  unfold n_ at h;cases f:vis st p with
  |none=>rw[f]at h;cases h
  |some s1=>
   rw[f]at h;obtain⟨v1,d1,r1⟩:=k p (by simp) st s1 rfl d f;obtain⟨v2,d2,r2⟩:=AZ ps s1 xf v1.low (λq c s s' i=>k q (by simp[c]) s s' (i.trans v1.len)) h;refine⟨v1.trans v2,λq c=> ?_,λb e=> ?_⟩
   ·rcases aE.1 c with rfl|c
    ·exact v2.done _ d1
    ·exact d2 q c
   ·obtain⟨i,l,n⟩:=r1 b e;obtain⟨j,o,r⟩:=r2 i l;exact⟨j,o,λm hm=>(r m (v1.done m hm)).trans (n m hm)⟩
theorem adv{l:List Nat}{f:Nat->Nat}:∀{x:Nat},x∈l->f x<=(l.map f).sum:=by
 induction l with
 |nil=>intro x h;cases h
 |cons y l a=>
  intro x h;rw[bz,List.sum_cons];rcases aE.1 h with rfl|h
  ·omega
  ·have:=a h;omega
theorem y_{g:Gr}(hw:Wf g):∀(k:Nat) (st xf:List Nat) (n:Nat),st.length=g.length->n<g.length->(∀m,iu st m<=2)->jC k g st n=some xf->
 Vis g st xf/\iu xf (find g n)=2/\∀d,AY g st d->∃o,AY g xf o/\∀m,iu st m=2->o m=d m
 |0,_,_,_,_,_,_,h=>by cases h
 |k+1,st,xf,n,hlen,B,t,h=>by
  have y:=hw.il B;unfold jC at h;obtain⟨r,C⟩:=xE (find g n);rw[<-C]at y h |-
  split at h
  ·cases h
  ·rename_i K
   split at h
   ·rename_i z;cases h;exact⟨⟨rfl,λ_=>Iff.rfl,λ_ h=>h,t,Nat.le_refl _⟩,z,λd i=>⟨d,i,λ_ _=>rfl⟩⟩
   ·rename_i z;have u:iu st r=0:=by have:=t r;omega
    have v:r<st.length:=by omega
    cases w:n_ (jC k g) (st.set r 1) (aX g r).parts with
    |none=>rw[w]at h;cases h
    |some s2=>
     rw[w]at h;have h:some (s2.set r 2)=some xf:=h;cases h;have j:∀m,iu (st.set r 1) m=if r=m then 1 else iu st m:=λm=>by
      rw[DQ];by_cases e:r=m
      ·rw[aq ⟨e,v⟩,aq e]
      ·rw[ah λh=>e h.1,ah e]
     obtain⟨V,D,R⟩:=AZ (g:=g) (vis:=jC k g) (aX g r).parts (st.set r 1) s2 (λm=>by rw[j];split;decide;exact t m)
      (λp hp s s' E F G=>y_ hw k s s' p (by rw[E,List.length_set,hlen]) (hw.parts r y p hp) F G) w
     have H:r<s2.length:=by rw[V.len,List.length_set];exact v
     have A:iu s2 r=1:=(V.now r).2 (by rw[j,aq rfl]);have l:∀m,iu (s2.set r 2) m=if r=m then 2 else iu s2 m:=λm=>by
      rw[DQ];by_cases e:r=m
      ·rw[aq ⟨e,H⟩,aq e]
      ·rw[ah λh=>e h.1,ah e]
     have eC:∀m,iu st m=2->r≠m:=λm hm e=>by rw[<-e,u]at hm;cases hm
     have q:∀m,iu s2 m=2->r≠m:=λm hm e=>by rw[<-e,A]at hm;cases hm
     refine⟨⟨by rw[List.length_set,V.len,List.length_set],λm=> ?_,λm hm=> ?_,λm=> ?_,?_⟩,by rw[l,aq rfl],λd i=> ?_⟩
     ·rw[l];by_cases e:r=m
      ·rw[aq e,<-e,u]
       constructor<;>intro h<;>cases h
      ·rw[ah e,V.now,j,ah e]
     ·rw[l,ah (eC m hm)];exact V.done m (by rw[j,ah (eC m hm)];exact hm)
     ·rw[l]
      split
      ·decide
      ·exact V.low m
     ·rw[DR s2 r 2 (by rw[A];decide) (by decide)];have:=V.kj;have:=AX st r 1 v u (by decide);omega
     ·obtain⟨c,I,J⟩:=R d (λm hm p hp=>by
       rw[j]at hm
       split at hm
       ·cases hm
       ·obtain⟨a,b⟩:=i m hm p hp;exact⟨by rw[j,ah (eC _ a)];exact a,b⟩)
      refine⟨λm=>if r=m then 1+(((aX g r).parts.map λp=>c (find g p)).sum)else c m,λm hm p hp=> ?_,λm hm=> ?_⟩
      ·rw[l]at hm;by_cases e:r=m
       ·subst e;have x:=D p hp;refine⟨by rw[l,ah (q _ x)];exact x,?_⟩;show(if r=find g p then _ else c (find g p))<if r=r then _ else _;rw[ah (q _ x),aq rfl];have:=adv (f:=λp=>c (find g p)) hp;omega
       ·rw[ah e]at hm;obtain⟨a,b⟩:=I m hm p hp;refine⟨by rw[l,ah (q _ a)];exact a,?_⟩;show(if r=find g p then _ else c (find g p))<if r=m then _ else _;rw[ah (q _ a),ah e];exact b
      ·show(if r=m then _ else c m)=d m;rw[ah (eC m hm)];exact J m (by rw[j,ah (eC m hm)];exact hm)
theorem pn(n i:Nat):iu (List.replicate n 0) i=0:=by
 unfold iu;rw[List.getElem?_replicate]
 split<;>rfl
theorem CA(n:Nat):kj (List.replicate n 0)=n:=by
 unfold kj;rw[List.filter_eq_self.2 (λa h=>by rw[(DT.1 h).2];rfl),cM]
def ahc(g:Gr):Prop:=∃a:Nat->Nat,∀i,i<g.length->∀p∈(aX g (find g i)).parts,a (find g p)<a (find g i)
theorem xT{g:Gr}(hw:Wf g){st:List Nat}(h:eX g=some st):ahc g:=by
 unfold eX at h;obtain⟨_,D,R⟩:=AZ (g:=g) (vis:=jC (g.length+1) g) (List.range g.length) (List.replicate g.length 0) st (λm=>by rw[pn];decide)
  (λp hp s s' a b c=>y_ hw _ s s' p (by rw[a,cM]) (bq.1 hp) b c) h
 obtain⟨b,a,_⟩:=R (λ_=>0) (λm hm=>by rw[pn]at hm;cases hm);exact⟨b,λi hi p hp=>(a _ (D i (bq.2 hi)) p hp).2⟩
def Fo.put(s:Int->Nd):Fo->Fo
 | .nil=>.nil
 | .cons a n k r=>if a=1 then .cons (s n).a (s n).n (s n).k (r.put s)else .cons a n (k.put s) (r.put s)
def Nd.put(s:Int->Nd)(t:Nd):Nd:=if t.a=1 then s t.n else⟨t.a,t.n,t.k.put s⟩
theorem Fo.IQ(s:Int->Nd):∀l:List Nd,(Fo.of l).put s=Fo.of (l.map (Nd.put s))
 |[]=>rfl
 |t::l=>by
  rw[bz];have a:=Fo.IQ s l;unfold Fo.of Fo.put;rw[a];unfold Nd.put
  split<;>rfl
theorem Fo.l_(s:Int->Nd)(f:Fo):(f.put s).list=f.list.map (Nd.put s):=by
 rw[<-Fo.l9 f,Fo.IQ,Fo.lF,Fo.lF]
def uH(g:Gr):Nat->Nat->Nd
 |0,_=>default
 |k+1,i=>if dQ (aX g (find g i))then⟨1,(find g i:Nat),.nil⟩else⟨(aX g (find g i)).sort,(aX g (find g i)).n,Fo.of ((aX g (find g i)).parts.map (uH g k))⟩
theorem Nu{g:Gr}(h:find g i=find g j):∀k,uH g k i=uH g k j
 |0=>rfl
 |k+1=>by unfold uH;rw[h]
theorem DU{g:Gr}(hw:Wf g){a:Nat->Nat}(b:∀i,i<g.length->∀p∈(aX g (find g i)).parts,a (find g p)<a (find g i)):∀(k j i:Nat),i<g.length->a (find g i)<k->a (find g i)<j->uH g k i=uH g j i
 |0,_,_,_,h,_=>ay h (ax _)
 |_+1,0,_,_,_,h=>ay h (ax _)
 |k+1,j+1,i,hi,c,d=>by
  unfold uH
  split
  ·rfl
  ·congr 2
   refine List.map_congr_left λp hp=> ?_;have:=b i hi p hp;exact DU hw b k j p (hw.parts _ (hw.il hi) p hp) (by omega) (by omega)
structure Trees (g:Gr) (t:Nat->Nd):Prop where
 find:∀i j,Go.Proofs.YtnicceekibancaaGreat.find g i=Go.Proofs.YtnicceekibancaaGreat.find g j->t i=t j
 free:∀i,i<g.length->dQ (aX g (Go.Proofs.YtnicceekibancaaGreat.find g i))=true->t i=⟨1,(Go.Proofs.YtnicceekibancaaGreat.find g i:Nat),.nil⟩
 node:∀i,i<g.length->dQ (aX g (Go.Proofs.YtnicceekibancaaGreat.find g i))=false->t i=⟨(aX g (Go.Proofs.YtnicceekibancaaGreat.find g i)).sort,(aX g (Go.Proofs.YtnicceekibancaaGreat.find g i)).n,Fo.of ((aX g (Go.Proofs.YtnicceekibancaaGreat.find g i)).parts.map t)⟩
 small:∃rk:Nat->Nat,∀i,i<g.length->∀p∈(aX g (Go.Proofs.YtnicceekibancaaGreat.find g i)).parts,rk (Go.Proofs.YtnicceekibancaaGreat.find g p)<rk (Go.Proofs.YtnicceekibancaaGreat.find g i)
structure Good (g:Gr):Prop where
 wf:Wf g
 opn:∀i,i<g.length->dQ (aX g i)=true->(aX g i).parts=[]
 one:∀i,i<g.length->(aX g i).sort≠1
 dc:Dc g λ_=>False
theorem iO(g:Gr)(v:Vx):aX (g++[v]) g.length=v:=by unfold aX;simp
theorem Ry(g:Gr)(v:Vx)(h:v.to=none):fm (g++[v])=fm g:=by
 unfold fm;rw[List.filter_append,bp,h];simp
theorem GD{g:Gr}(hw:Wf g)(v:Vx):∀(k i:Nat),i<g.length->fD (g++[v]) k i=fD g k i
 |0,_,_=>rfl
 |k+1,i,hi=>by
  unfold fD;rw[dX g [v] hi]
  split
  ·rfl
  ·rename_i m hm;exact GD hw v k m (hw.to i hi m hm)
theorem DV{g:Gr}(hw:Wf g){v:Vx}(a:v.to=none)(hi:i<g.length):find (g++[v]) i=find g i:=by
 unfold find;rw[Ry g v a,GD hw v _ i hi]
theorem UB(g:Gr){v:Vx}(a:v.to=none):find (g++[v]) g.length=g.length:=AU (by rw[iO];exact a)
theorem dS(g:Gr)(v:Vx):(g++[v]).length=g.length+1:=by simp
theorem Good.add{g:Gr}(h:Good g){v:Vx}(hv:v.to=none)(hp:∀p∈v.parts,p<g.length)(d:dQ v=true->v.parts=[])(f:v.sort≠1):Good (g++[v]):=by
 have hw:=h.wf;refine⟨⟨λi hi p a=> ?_,λi hi m hm=> ?_,λi hi=> ?_⟩,λi hi b=> ?_,λi hi=> ?_,λi hi _ b m hm=> ?_⟩
 all_goals rw[dS]at hi
 ·rw[dS];by_cases e:i<g.length
  ·rw[dX g [v] e]at a;have:=hw.parts i e p a;omega
  ·obtain rfl:i=g.length:=by omega
   rw[iO]at a;have:=hp p a;omega
 ·rw[dS];by_cases e:i<g.length
  ·rw[dX g [v] e]at hm;have:=hw.to i e m hm;omega
  ·exact anV
 ·by_cases e:i<g.length
  ·rw[DV hw hv e,dX g [v] (hw.il e)];exact hw.ends i e
  ·obtain rfl:i=g.length:=by omega
   rw[UB g hv,iO];exact hv
 ·by_cases e:i<g.length
  ·rw[dX g [v] e]at b |-;exact h.opn i e b
  ·obtain rfl:i=g.length:=by omega
   rw[iO]at b |-;exact d b
 ·by_cases e:i<g.length
  ·rw[dX g [v] e];exact h.one i e
  ·obtain rfl:i=g.length:=by omega
   rw[iO];exact f
 ·by_cases e:i<g.length
  ·rw[dX g [v] e]at b hm |-;have G:=hw.to i e m hm;obtain⟨j,a2,a3,a4,a5⟩:=h.dc i e (λh=>h) b m hm;rw[dX g [v] G];refine⟨j,a2,a3,a4,λq c=> ?_⟩;have:=List.of_mem_zip c;rw[DV hw hv (hw.parts i e _ this.1),DV hw hv (hw.parts m G _ this.2)];exact a5 q c
  ·exact anV
theorem Good.nil:Good []:=⟨⟨λi hi=>ay hi (ax _),λi hi=>ay hi (ax _),λi hi=>ay hi (ax _)⟩,λi hi=>ay hi (ax _),λi hi=>ay hi (ax _),λi hi=>ay hi (ax _)⟩
theorem GF{t u:Nat->Nd}(h:∀i,i<n->u i=t i):∀{l:List Nat},(∀p∈l,p<n)->l.map u=l.map t:=λ{_} a=>List.map_congr_left λp hp=>h p (a p hp)
theorem Model.agree{g:Gr}(hw:Wf g){t u:Nat->Nd}(h:∀i,i<g.length->u i=t i)(a:Model g t):Model g u:=by
 refine⟨λi hi m hm=> ?_,λi hi b=> ?_⟩
 ·rw[h i hi,h m (hw.to i hi m hm)];exact a.to i hi m hm
 ·rw[h i hi,GF h (hw.parts i hi)];exact a.node i hi b
theorem rK{g:Gr}{v:Vx}(hv:v.to=none){t:Nat->Nd}:Model (g++[v]) t↔Model g t/\(dQ v=false->t g.length=⟨v.sort,v.n,Fo.of (v.parts.map t)⟩):=by
 constructor
 ·intro h;refine⟨⟨λi hi m hm=> ?_,λi hi a=> ?_⟩,λa=> ?_⟩
  ·exact h.to i (by rw[dS];omega) m (by rw[dX g [v] hi];exact hm)
  ·have:=h.node i (by rw[dS];omega) (by rw[dX g [v] hi];exact a);rw[dX g [v] hi]at this;exact this
  ·have:=h.node g.length (by rw[dS];omega) (by rw[iO];exact a);rw[iO]at this;exact this
 ·rintro⟨h,b⟩;refine⟨λi hi m hm=> ?_,λi hi a=> ?_⟩
  all_goals rw[dS]at hi
  ·by_cases e:i<g.length
   ·rw[dX g [v] e]at hm;exact h.to i e m hm
   ·exact anV
  ·by_cases e:i<g.length
   ·rw[dX g [v] e]at a |-;exact h.node i e a
   ·obtain rfl:i=g.length:=by omega
    rw[iO]at a |-;exact b a
def T3(g:Gr)(a b:Nat):Option Gr:=DK (g.length+1) g a b
theorem Good.eq{g g':Gr}(h:Good g)(c:a<g.length)(d:b<g.length)(he:T3 g a b=some g'):Good g'/\g'.length=g.length/\∀t,Model g' t↔Model g t/\t a=t b:=by
 have e:=DM (g.length+1) g a b h.wf (by omega) c d;have f:=DP (g.length+1) g g' a b h.wf (by omega) c d he;obtain⟨w,l,_,s,m⟩:=e.yes g' he;refine⟨⟨w,λi hi j=> ?_,λi hi=> ?_,f.dc _ h.dc⟩,l,m⟩
 ·rw[l]at hi;rw[(s i).2.2];exact h.opn i hi (by rw[<-xS (s i).1];exact j)
 ·rw[l]at hi;rw[(s i).1];exact h.one i hi
def iw(vs:List Int)(x:Int):List Int:=if x∈vs then vs else vs++[x]
def qF(vs:List Int)(x:Int):Int:=(vs.idxOf x:Nat)
def Fo.num:List Int->Fo->List Int×Fo
 |vs,.nil=>(vs,.nil)
 |vs,.cons a n k r=>
  if a=1 then((r.num (iw vs n)).1,.cons 1 (qF vs n) .nil (r.num (iw vs n)).2)
  else((r.num (k.num vs).1).1,.cons a n (k.num vs).2 (r.num (k.num vs).1).2)
def Fo.plain:Fo->Prop
 | .nil=>True
 | .cons a _ k r=>(a=1->k=.nil)/\k.plain/\r.plain
def Fo.has:Fo->Int->Prop
 | .nil,_=>False
 | .cons a n k r,x=>if a=1 then x=n\/r.has x else k.has x\/r.has x
def dO{V:Type}(vf:Gr->V->Int->(Gr×V)×Nat):Fo->Gr->V->(Gr×V)×List Nat
 | .nil,g,v=>((g,v),[])
 | .cons a n k r,g,v=>
  if a=1 then((dO vf r (vf g v n).1.1 (vf g v n).1.2).1,(vf g v n).2::(dO vf r (vf g v n).1.1 (vf g v n).1.2).2)
  else((dO vf r ((dO vf k g v).1.1++[⟨a,n,(dO vf k g v).2,none⟩]) (dO vf k g v).1.2).1,(dO vf k g v).1.1.length::(dO vf r ((dO vf k g v).1.1++[⟨a,n,(dO vf k g v).2,none⟩]) (dO vf k g v).1.2).2)
structure ahd {V:Type} (look:V->Int->Option Nat) (R:Int->Nd->Prop) (g:Gr) (v:V) (g':Gr) (v':V):Prop where
 good:Good g'
 len:g.length<=g'.length
 old:∀y m,look v y=some m->look v' y=some m
 low:∀y m,look v' y=some m->m<g'.length
 sound:∀t:Nat->Nd,Model g' t->Model g t/\((∀y m,look v y=some m->R y (t m))->∀y m,look v' y=some m->R y (t m))
 whole:∀(t:Nat->Nd) (s:Int->Nd),Model g t->(∀y m,look v y=some m->t m=s y)->(∀y,R y (s y))->∃t',(∀i,i<g.length->t' i=t i)/\Model g' t'/\∀y m,look v' y=some m->t' m=s y
theorem pq{s:Int->Nd}{a n:Int}{k:Fo}(h:a≠1):Nd.put s ⟨a,n,k⟩=⟨a,n,k.put s⟩:=by unfold Nd.put;rw[ah h]
theorem zh{s:Int->Nd}{a n:Int}{k:Fo}(h:a=1):Nd.put s ⟨a,n,k⟩=s n:=by unfold Nd.put;rw[aq h]
theorem vV{s u:Int->Nd}:∀(f:Fo),(∀x,f.has x->s x=u x)->f.put s=f.put u
 | .nil,_=>rfl
 | .cons a n k r,h=>by
  unfold Fo.has at h;unfold Fo.put;by_cases c:a=1
  ·simp only[aq c]at h |-;rw[h n (.inl rfl),vV r λx b=>h x (.inr b)]
  ·simp only[ah c]at h |-;rw[vV k λx b=>h x (.inl b),vV r λx b=>h x (.inr b)]
theorem Nv{s u:Int->Nd}{f:Fo}(h:∀x,f.has x->s x=u x):f.list.map (Nd.put s)=f.list.map (Nd.put u):=by
 rw[<-Fo.l_,<-Fo.l_,vV f h]
def Fo.jL:Fo->Prop
 | .nil=>True
 | .cons a _ k r=>a≠0/\k.jL/\r.jL
structure Da where
 params:Int
 cons:List Fo
structure Kn where
 bH:List Da
 types:List Nd
 own:Int->Bool
def ZJ:Nd:=⟨2,0,.nil⟩
def PV:Nd:=⟨4,0,.nil⟩
def IS(a b:Nd):Nd:=⟨3,0,Fo.of [a,b]⟩
def gH:List Da->Nat->Int->Nat×Int×Fo
 |[],d,_=>(d,0,.nil)
 |x::l,d,n=>if n<x.cons.length then(d,x.params,x.cons[n.toNat]?.getD .nil)else gH l (d+1) (n-x.cons.length)
def Fo.i_:Fo->Nat
 | .nil=>0
 | .cons a n k r=>if a=1 then max (n.toNat+1) r.i_ else max k.i_ r.i_
def Nd.i_(t:Nd):Nat:=if t.a=1 then t.n.toNat+1 else t.k.i_
def lf(C:Kn)(f:Int):Nd:=C.types[f.toNat]?.getD default
abbrev En:=List (Int×Nat)
def look(e:En)(y:Int):Option Nat:=(e.find? λq=>q.1==y).map (·.2)
structure Ck where
 g:Gr
 env:En
 us:List (Nat×Int×List Nat)
structure Cfg (S:Ck) (t:Nat->Nd) (s:Int->Nd):Prop where
 model:Model S.g t
 env:∀y m,look S.env y=some m->t m=s y
structure xU (S:Ck):Prop where
 good:Good S.g
 env:∀y m,look S.env y=some m->m<S.g.length
 us:∀u∈S.us,∀m∈u.2.2,m<S.g.length
structure dY (S S':Ck):Prop where
 low:xU S'
 len:S.g.length<=S'.g.length
 env:∀y m,look S.env y=some m->look S'.env y=some m
 us:∃l,S'.us=S.us++l
theorem dY.refl{S:Ck}(h:xU S):dY S S:=⟨h,lR,λ_ _ h=>h,[],by simp⟩
theorem dY.trans{S S' S2:Ck}(h:dY S S')(h':dY S' S2):dY S S2:=by
 obtain⟨l,e⟩:=h.us;obtain⟨a,b⟩:=h'.us;exact⟨h'.low,ai h.len h'.len,λy m e=>h'.env y m (h.env y m e),l++a,by rw[b,e,aG]⟩
structure Sp {α X:Type} (S:Ck) (D:(Nat->Nd)->(Int->Nd)->X->Prop) (obs:Ck->α->(Nat->Nd)->X) (r:Option (Ck×α)):Prop where
 later:∀S' a,r=some (S',a)->dY S S'
 sound:∀S' a,r=some (S',a)->∀t s,Cfg S' t s->Cfg S t s/\D t s (obs S' a t)
 whole:∀S' a,r=some (S',a)->∀t s x,Cfg S t s->D t s x->∃t',(∀i,i<S.g.length->t' i=t i)/\Cfg S' t' s/\obs S' a t'=x
 no:r=none->∀t s x,Cfg S t s->¬D t s x
theorem Sp.iff{α X:Type}{S:Ck}{D d:(Nat->Nd)->(Int->Nd)->X->Prop}{obs:Ck->α->(Nat->Nd)->X}{r:Option (Ck×α)}(h:Sp S D obs r)(b:∀t s x,Cfg S t s->(D t s x↔d t s x)):Sp S d obs r:=
 ⟨h.later,λS' a e t s hc=>⟨(h.sound S' a e t s hc).1,(b t s _ (h.sound S' a e t s hc).1).1 (h.sound S' a e t s hc).2⟩,λS' a e t s x hc c=>h.whole S' a e t s x hc ((b t s x hc).2 c),λe t s x hc c=>h.no e t s x hc ((b t s x hc).2 c)⟩
theorem xU.add{S:Ck}(h:xU S){v:Vx}(a:v.to=none)(hp:∀p∈v.parts,p<S.g.length)(b:dQ v=true->v.parts=[])(c:v.sort≠1):xU { S with g:=S.g++[v]}:=
 ⟨h.good.add a hp b c,λy m e=>by show m<(S.g++[v]).length;rw[dS];have:=h.env y m e;omega,λu hu m hm=>by show m<(S.g++[v]).length;rw[dS];have:=h.us u hu m hm;omega⟩
theorem dY.add{S:Ck}(h:xU S){v:Vx}(a:v.to=none)(hp:∀p∈v.parts,p<S.g.length)(b:dQ v=true->v.parts=[])(c:v.sort≠1):dY S { S with g:=S.g++[v]}:=
 ⟨h.add a hp b c,by show S.g.length<=(S.g++[v]).length;rw[dS];omega,λ_ _ e=>e,[],by simp⟩
def Nw(S:Ck)(v:Vx):Ck×Nat:=({ S with g:=S.g++[v]},S.g.length)
def ZK(_:Ck)(a:Nat)(t:Nat->Nd):Nd:=t a
theorem UC{S:Ck}(h:xU S){v:Vx}(c:v.to=none)(hp:∀p∈v.parts,p<S.g.length)(f:dQ v=true->v.parts=[])(g:v.sort≠1):
 Sp S (λt _ x=>dQ v=false->x=⟨v.sort,v.n,Fo.of (v.parts.map t)⟩) ZK (some (Nw S v)):=by
 refine⟨λS' a e=> ?_,λS' a e t s hc=> ?_,λS' a e t s x hc j=> ?_,λe=>by cases e⟩
 ·cases e;exact dY.add h c hp f g
 ·cases e;obtain⟨m,d⟩:=(rK c).1 hc.model;exact⟨⟨m,hc.env⟩,d⟩
 ·cases e;have b:∀i,i<S.g.length->(if i=S.g.length then x else t i)=t i:=λi hi=>ah (by omega);refine⟨λi=>if i=S.g.length then x else t i,b,⟨(rK c).2 ⟨hc.model.agree h.good.wf b,λk=> ?_⟩,λy m e=> ?_⟩,aq rfl⟩
  ·rw[aq rfl,GF b hp];exact j k
  ·show(if m=S.g.length then x else t m)=s y;rw[b m (h.env y m e)];exact hc.env y m e
def bP(S:Ck):Ck×Nat:=Nw S ⟨0,0,[],none⟩
theorem PW{S:Ck}(h:xU S):Sp S (λ_ _ (_:Nd)=>True) ZK (some (bP S)):=
 (UC h (v:=⟨0,0,[],none⟩) rfl (λp hp=>by cases hp) (λ_=>rfl) (by decide)).iff λt s x _=>⟨λ_=>trivial,λ_ e=>by cases e⟩
def gQ(S:Ck)(sort n:Int)(parts:List Nat):Ck×Nat:=Nw S ⟨sort,n,parts,none⟩
theorem ZL{S:Ck}(h:xU S){sort n:Int}{parts:List Nat}(hp:∀p∈parts,p<S.g.length)(b:sort≠0)(c:sort≠1):
 Sp S (λt _ x=>x=⟨sort,n,Fo.of (parts.map t)⟩) ZK (some (gQ S sort n parts)):=by
 have a:dQ ⟨sort,n,parts,none⟩=false:=by unfold dQ;simpa using b
 exact(UC h (v:=⟨sort,n,parts,none⟩) rfl hp (λe=>by rw[a]at e;cases e) c).iff λt s x _=>⟨λe=>e a,λe _=>e⟩
def wN(S:Ck)(a b:Nat):Option (Ck×Unit):=(T3 S.g a b).map λg=>({ S with g:=g},())
def zz(S:Ck)(f a:Nat):Option (Ck×Nat):=
 match wN (gQ (bP S).1 3 0 [a,(bP S).2]).1 f (gQ (bP S).1 3 0 [a,(bP S).2]).2 with
 |none=>none
 |some (S',_)=>some (S',(bP S).2)
def ny(ps:List Nat)(y:Int):Option Nat:=if y<0 then none else ps[y.toNat]?
def lh:Nat->Gr->List Nat->Gr×List Nat
 |0,g,ps=>(g,ps)
 |k+1,g,ps=>lh k (g++[⟨0,0,[],none⟩]) (ps++[g.length])
def l7(g:Gr)(ps:List Nat)(x:Int):(Gr×List Nat)×Nat:=(lh (x.toNat+1-ps.length) g ps,(lh (x.toNat+1-ps.length) g ps).2[x.toNat]?.getD 0)
theorem Kr:∀(k:Nat) (g:Gr) (ps:List Nat),(lh k g ps).2.length=ps.length+k
 |0,_,_=>rfl
 |k+1,g,ps=>by unfold lh;rw[Kr k];simp;omega
theorem ahb{R:Int->Nd->Prop}(f:∀y x,R y x){g:Gr}{ps:List Nat}(h:Good g)(c:∀y m,ny ps y=some m->m<g.length):ahd ny R g ps (g++[⟨0,0,[],none⟩]) (ps++[g.length]):=by
 have d:∀y m,ny (ps++[g.length]) y=some m->ny ps y=some m\/y=ps.length/\m=g.length:=λy m e=>by
  unfold ny at e |-;by_cases hy:y<0
  ·rw[aq hy]at e;cases e
  ·rw[ah hy]at e |-;rw[List.getElem?_append]at e
   split at e
   ·exact .inl e
   ·refine .inr ?_;cases a:y.toNat-ps.length with
    |zero=>rw[a]at e;simp at e;omega
    |succ q=>rw[a]at e;simp at e
 refine⟨h.add rfl (λp hp=>by cases hp) (λ_=>rfl) (by decide),by rw[dS];omega,λy m e=> ?_,λy m e=> ?_,λt b=>⟨((rK rfl).1 b).1,λ_ y m _=>f _ _⟩,λt s b j _=> ?_⟩
 ·unfold ny at e |-;by_cases hy:y<0
  ·rw[aq hy]at e;cases e
  ·rw[ah hy]at e |-;obtain⟨hi,_⟩:=cL.1 e;rw[bM hi];exact e
 ·rw[dS];rcases d y m e with e|⟨_,rfl⟩
  ·have:=c y m e;omega
  ·omega
 ·have a:∀i,i<g.length->(if i=g.length then s ps.length else t i)=t i:=λi hi=>ah (by omega);refine⟨λi=>if i=g.length then s ps.length else t i,a,(rK rfl).2 ⟨b.agree h.wf a,λe=>by cases e⟩,λy m e=> ?_⟩;rcases d y m e with e|⟨rfl,rfl⟩
  ·show(if m=g.length then _ else t m)=s y;rw[ah (by have:=c y m e;omega)];exact j y m e
  ·exact aq rfl
theorem rL:∀(f:Fo) (g:Gr) (ps:List Nat),(∀x,f.has x->x.toNat<ps.length)->(dO l7 f g ps).1.2=ps
 | .nil,_,_,_=>rfl
 | .cons a n k r,g,ps,hp=>by
  unfold dO;unfold Fo.has at hp;by_cases c:a=1
  ·simp only[aq c]at hp |-;have d:n.toNat+1-ps.length=0:=by have:=hp n (.inl rfl);omega
   have e:(l7 g ps n).1.2=ps:=by unfold l7;rw[d];rfl
   rw[e];exact rL r _ _ λx b=>hp x (.inr b)
  ·simp only[ah c]at hp |-;rw[rL k g ps λx b=>hp x (.inl b)];exact rL r _ _ λx b=>hp x (.inr b)
def A2(l:List Nd)(x:Int):Nd:=l[x.toNat]?.getD default
def jW(S:Ck)(F:Fo)(ps:List Nat):Ck×List Nat:=({ S with g:=(dO l7 F S.g ps).1.1},(dO l7 F S.g ps).2)
def eG{α β:Type}(r:Option (Ck×α))(q:Ck->α->Option (Ck×β)):Option (Ck×β):=
 match r with
 |none=>none
 |some (S',a)=>q S' a
def b9:Nat->Ck->Ck×List Nat
 |0,S=>(S,[])
 |k+1,S=>((b9 k (bP S).1).1,(bP S).2::(b9 k (bP S).1).2)
theorem Ks:∀(k:Nat) (S:Ck),(b9 k S).1.us=S.us
 |0,_=>rfl
 |k+1,S=>Ks k (bP S).1
def Nd.one(T:Nd):Fo:=.cons T.a T.n T.k .nil
structure Nd.ok (T:Nd):Prop where
 jL:T.one.jL
 var:∀x,T.one.has x->0<=x
 plain:T.one.plain
theorem Nd.nz(T:Nd):T.one.i_=T.i_:=by
 show(if T.a=1 then max (T.n.toNat+1) 0 else max T.k.i_ 0)=if T.a=1 then T.n.toNat+1 else T.k.i_
 split
 ·omega
 ·omega
theorem Fo.nA:∀(f:Fo) (x:Int),f.has x->x.toNat<f.i_
 | .nil,_,h=>h.elim
 | .cons a n k r,x,h=>by
  unfold Fo.has at h;unfold Fo.i_;by_cases b:a=1
  ·simp only[aq b]at h |-;rcases h with rfl|h
   ·omega
   ·have:=Fo.nA r x h;omega
  ·simp only[ah b]at h |-;rcases h with h|h
   ·have:=Fo.nA k x h;omega
   ·have:=Fo.nA r x h;omega
def er(S:Ck)(T:Nd):Ck×(Nat×List Nat):=
 ((jW (b9 T.i_ S).1 T.one (b9 T.i_ S).2).1,((jW (b9 T.i_ S).1 T.one (b9 T.i_ S).2).2.headD 0,(b9 T.i_ S).2))
def ahe(S:Ck)(T:Nd):Ck×(Nat×List Nat):=
 ({ S with g:=(dO l7 T.one S.g []).1.1},((dO l7 T.one S.g []).2.headD 0,(dO l7 T.one S.g []).1.2))
theorem C5{V:Type}(vf:Gr->V->Int->(Gr×V)×Nat)(T:Nd)(g:Gr)(v:V):∃m,(dO vf T.one g v).2=[m]:=by
 unfold Nd.one dO
 split
 ·exact⟨_,rfl⟩
 ·exact⟨_,rfl⟩
theorem jS:∀(k:Nat) (S:Ck),(b9 k S).2.length=k
 |0,_=>rfl
 |k+1,S=>by show(b9 k (bP S).1).2.length+1=k+1;rw[jS k]
structure Ok (C:Kn) (S:Ck):Prop where
 low:xU S
 own:∀f,C.own f=true->0<=f/\∃m,look S.env (-1-f)=some m
theorem Ok.later{C:Kn}{S S':Ck}(h:Ok C S)(l:dY S S'):Ok C S':=⟨l.low,λf a=>by
 obtain⟨b,m,e⟩:=h.own f a;exact⟨b,m,l.env _ _ e⟩⟩
def A5(C:Kn)(f:Int):Prop:=C.own f=true\/(lf C f).ok
def jd(inst:Ck->Nd->Ck×(Nat×List Nat))(C:Kn)(S:Ck)(c:Nat)(f:Int):Ck×Nat:=
 if C.own f=true then(S,(look S.env (-1-f)).getD 0)
 else({ (inst S (lf C f)).1 with us:=(inst S (lf C f)).1.us++[(c,f,(inst S (lf C f)).2.2)]},(inst S (lf C f)).2.1)
theorem dn(n:Int)(m:Nat)(e:En)(y:Int):look ((n,m)::e) y=if n=y then some m else look e y:=by
 unfold look;rw[List.find?_cons];by_cases h:n=y
 ·rw[aq h,show(n==y)=true by simpa using h];rfl
 ·rw[ah h,show(n==y)=false by simpa using h]
def me(S:Ck)(n:Int):Ck×Nat:=
 match look S.env n with
 |some m=>(S,m)
 |none=>({ S with g:=S.g++[⟨0,0,[],none⟩],env:=(n,S.g.length)::S.env},S.g.length)
theorem adw{S:Ck}(h:xU S)(n:Int):Sp S (λ_ s x=>x=s n) ZK (some (me S n))/\(me S n).2<(me S n).1.g.length/\(me S n).1.us=S.us:=by
 unfold me;cases e:look S.env n with
 |some m=>
  refine⟨⟨λS' a b=> ?_,λS' a b t s hc=> ?_,λS' a b t s x hc d=> ?_,λb=>by cases b⟩,h.env _ _ e,rfl⟩
  ·cases b;exact dY.refl h
  ·cases b;exact⟨hc,hc.env _ _ e⟩
  ·cases b;exact⟨t,λ_ _=>rfl,hc,by rw[d];exact hc.env _ _ e⟩
 |none=>
  have f:=PW h;have c:dY S (bP S).1:=f.later (bP S).1 (bP S).2 rfl;have hlen:(S.g++[(⟨0,0,[],none⟩:Vx)]).length=S.g.length+1:=dS _ _;refine⟨⟨λS' a b=> ?_,λS' a b t s hc=> ?_,λS' a b t s x hc d=> ?_,λb=>by cases b⟩,by show S.g.length<(S.g++[_]).length;rw[hlen];omega,rfl⟩
  ·cases b;refine⟨⟨c.low.good,λy m hm=> ?_,c.low.us⟩,c.len,λy m hm=> ?_,c.us⟩
   ·show m<(S.g++[_]).length;rw[hlen];rw[dn]at hm
    split at hm
    ·cases hm;omega
    ·have:=h.env y m hm;omega
   ·exact anY
  ·cases b;refine⟨⟨((rK rfl).1 hc.model).1,λy m hm=>hc.env y m ?_⟩,hc.env n S.g.length ?_⟩
   ·exact anY
   ·show look ((n,S.g.length)::S.env) n=some _;rw[dn,aq rfl]
  ·cases b;obtain⟨t1,i,c1,g⟩:=f.whole (bP S).1 (bP S).2 rfl t s x hc trivial;refine⟨t1,i,⟨c1.model,λy m hm=> ?_⟩,g⟩;rw[dn]at hm
   split at hm
   ·rename_i hy;cases hm;have:t1 S.g.length=x:=g;rw[this,d,hy]
   ·exact c1.env y m hm
abbrev oM:=Nat->Ck->Option (Ck×Nat)
def nB:List (Nat×oM)->List Nat->Nat->Ck->Option (Ck×Unit)
 |[],[],_,S=>some (S,())
 |(z,p)::ks,w::ws,c,S=>
  eG (p c S) λb a=>eG (wN b a w) λS2 _=>nB ks ws (c+z) S2
 |_,_,_,_=>none
def nC:List (Nat×oM)->Nat->Nat->Ck->Option (Ck×Nat)
 |[],f,_,S=>some (S,f)
 |(z,p)::ks,f,c,S=>
  eG (p c S) λb a=>eG (zz b f a) λS2 m=>nC ks m (c+z) S2
def BL(S:Ck):Option (Int×Int)->Ck×Nat
 |none=>bP S
 |some (a,n)=>gQ S a n []
def UD(o:Option (Int×Int))(x:Nd):Prop:=∀q,o=some q->x=⟨q.1,q.2,.nil⟩
def A6(o:Option (Int×Int)):Prop:=∀q,o=some q->q.1≠0/\q.1≠1
def nq:List (Option (Int×Int))->Ck->Ck×List Nat
 |[],S=>(S,[])
 |o::l,S=>((nq l (BL S o).1).1,(BL S o).2::(nq l (BL S o).1).2)
inductive Leaves:List (Option (Int×Int))->List Nd->Prop where
 |nil:Leaves [] []
 |cons {o:Option (Int×Int)} {x:Nd} {l:List (Option (Int×Int))} {xs:List Nd}:UD o x->Leaves l xs->Leaves (o::l) (x::xs)
theorem xV:∀(l:List (Option (Int×Int))) (S:Ck),(nq l S).2.length=l.length
 |[],_=>rfl
 |o::l,S=>by show(nq l (BL S o).1).2.length+1=l.length+1;rw[xV l]
def pick(ns:List Nat)(i:Nat):Nat:=ns[i]?.getD 0
theorem Kt{ns:List Nat}(h:i<ns.length):pick ns i∈ns:=by
 unfold pick;rw[ae h];exact aR h
def qG(pre:List (Option (Int×Int)))(want:List Nat)(post:List (Option (Int×Int)))(ret:Nat)(ks:List (Nat×oM)):oM:=λc S=>
 eG (some (nq pre S)) λa ns=>eG (nB ks (want.map (pick ns)) (c+1) a) λS2 _=>eG (some (nq post S2)) λb ms=>some (b,pick (ns++ms) ret)
def UE(params:Nat)(args:Fo)(tail:Ck->List Nat->List Nat->Option (Ck×Nat))(S:Ck):Option (Ck×Nat):=
 eG (some (b9 params S)) λa ps=>eG (some (jW a args ps)) λS2 ws=>tail S2 ps ws
def GG(d:Int)(ks:List (Nat×oM))(c:Nat)(S:Ck)(ps ws:List Nat):Option (Ck×Nat):=eG (nB ks ws (c+1) S) λa _=>some (gQ a 4 d ps)
def PX(d:Int)(ks:List (Nat×oM))(c:Nat)(S:Ck)(ps ws:List Nat):Option (Ck×Nat):=eG (some (gQ S 4 d ps)) λa m=>eG (nB ks ws (c+1) a) λS2 _=>some (S2,m)
def UF(inst:Ck->Nd->Ck×(Nat×List Nat))(C:Kn)(n:Int)(ks:List (Nat×oM)):oM:=λc S=>eG (some (jd inst C S c n)) λa f=>nC ks f (c+1) a
def IT(ks:List (Nat×oM)):oM:=λc S=>
 match ks with
 |[(z,p),q]=>eG (p (c+1) S) λa f=>nC [q] f (c+1+z) a
 |_=>none
def GH(a:En)(n:Int)(e:En):En:=
 match look a n with
 |some m=>(n,m)::e
 |none=>e.filter λq=>q.1 != n
theorem uI(n:Int):∀(e:En) (y:Int),look (e.filter λq=>q.1 != n) y=if y=n then none else look e y
 |[],y=>by show none=if y=n then none else none;split<;>rfl
 |(x,m)::e,y=>by
  rw[bp,dn];by_cases a:x=n
  ·rw[ah (by simp[a]),uI n e y];by_cases hy:y=n
   ·rw[aq hy,aq hy]
   ·rw[ah hy,ah hy,ah (by omega)]
  ·rw[aq (by simpa using a),dn,uI n e y];by_cases hy:y=n
   ·rw[aq hy,aq hy,ah (by omega)]
   ·rw[ah hy,ah hy]
theorem A7(a:En)(n:Int)(e:En)(y:Int):look (GH a n e) y=if y=n then look a n else look e y:=by
 unfold GH;cases h:look a n with
 |some m=>
  show look ((n,m)::e) y=_;rw[dn];by_cases hy:y=n
  ·rw[aq hy.symm,aq hy]
  ·rw[ah (by omega),ah hy]
 |none=>exact uI n e y
def UG(n:Int)(ks:List (Nat×oM)):oM:=λc S=>
 match ks with
 |[(z,p),(_,q)]=>eG (p (c+1) S) λd a=>eG (q (c+1+z) { d with env:=(n,a)::d.env}) λS2 b=>some ({ S2 with env:=GH d.env n S2.env},b)
 |_=>none
def lB:Option (Int×Int):=some (4,0)
def lI:Option (Int×Int):=some (2,0)
def xW(P:Bool)(inst:Ck->Nd->Ck×(Nat×List Nat))(C:Kn)(a n:Int)(ks:List (Nat×oM)):oM:=
 if a=1 then λ_ S=>some (me S n)
 else if a=2 then λ_ S=>some (gQ S 2 0 [])
 else if a=3 then λc S=>UE (gH C.bH 0 n).2.1.toNat (gH C.bH 0 n).2.2 ((if P then GG else PX) ((gH C.bH 0 n).1:Nat) ks c) S
 else if a=4\/a=5 then UF inst C n ks
 else if a=6 then IT ks
 else if a=7 then qG [none] [0,0] [] 0 ks
 else if a=8 then UG n ks
 else if a=9 then qG [none,lB] [1,0] [] 0 ks
 else if a=10 then if P then qG [lB,lB] [0,1] [lB] 2 ks else qG [lB] [0,0] [] 0 ks
 else if a=11\/a=12 then if P then qG [none] [0,0] [lB] 1 ks else qG [none,lB] [0,0] [] 1 ks
 else if a=13\/a=14 then if P then qG [lI,lI] [0,1] [lI] 2 ks else qG [lI] [0,0] [] 0 ks
 else if a=15 then if P then qG [lI,lI] [0,1] [lI,lB] 3 ks else qG [lI,lB] [0,0] [] 1 ks
 else λ_ _=>none
def rM(P:Bool)(inst:Ck->Nd->Ck×(Nat×List Nat))(C:Kn):Fo->List (Nat×oM)
 | .nil=>[]
 | .cons a n k r=>(1+k.size,xW P inst C a n (rM P inst C k))::rM P inst C r
def Fo.lets:Fo->Prop
 | .nil=>True
 | .cons a n k r=>(a=8->0<=n)/\k.lets/\r.lets
def Fo.fns(p:Int->Prop):Fo->Prop
 | .nil=>True
 | .cons a n k r=>(a=4\/a=5->p n)/\k.fns p/\r.fns p
theorem Fo.pw{p q:Int->Prop}(h:∀f,p f->q f):∀F:Fo,F.fns p->F.fns q
 | .nil,_=>trivial
 | .cons _ _ k r,g=>⟨λe=>h _ (g.1 e),Fo.pw h k g.2.1,Fo.pw h r g.2.2⟩
def xY(C:Kn):Prop:=∀n,(gH C.bH 0 n).2.2.jL/\∀x,(gH C.bH 0 n).2.2.has x->0<=x/\x.toNat<(gH C.bH 0 n).2.1.toNat
theorem UH:A6 lB:=λq e=>by cases e;decide
theorem UI:A6 lI:=λq e=>by cases e;decide
theorem UJ:A6 none:=λq e=>by cases e
theorem leaves_cons{o:Option (Int×Int)}{l:List (Option (Int×Int))}{xs:List Nd}:Leaves (o::l) xs↔∃x c,xs=x::c/\UD o x/\Leaves l c:=⟨λh=>by cases h with|cons a b=>exact⟨_,_,rfl,a,b⟩,fun⟨_,_,e,a,b⟩=>e ▸ .cons a b⟩
def C6(e:En)(r:Option (Ck×Unit)):Option (Ck×Unit):=
 match r with
 |none=>none
 |some (S',u)=>some ({ S' with env:=e},u)
def je:List Int->Ck->Ck
 |[],S=>S
 |n::l,S=>je l (me S n).1
def Ku(ps:List (Nat×oM))(rhs:oM)(a:Bool)(f c:Nat)(S:Ck):Option (Ck×Unit):=
 eG (nC ps f c S) λb out=>eG (rhs (c+(ps.map (·.1)).sum) b) λS2 n=>if a then wN S2 n out else wN S2 out n
def tQ(sc:List Int)(ps:List (Nat×oM))(rhs:oM)(a:Bool)(f:Int)(c:Nat)(S:Ck):Option (Ck×Unit):=
 C6 S.env (Ku ps rhs a ((look S.env (-1-f)).getD 0) c (je sc S))
structure Ru where
 f:Int
 F:Fo
 a:Int
 n:Int
 k:Fo
structure Y8 where
 ps:List (Nat×oM)
 rhs:oM
def mf(sc:List Int)(a:Bool):List (Ru×Y8)->Nat->Ck->Option (Ck×Unit)
 |[],_,S=>some (S,())
 |(r,q)::l,c,S=>
  match tQ sc q.ps q.rhs a r.f c S with
  |none=>none
  |some (b,_)=>mf sc a l (c+(q.ps.map (·.1)).sum+(1+r.k.size)) b
def d_:Nat->Ck->Nat->Ck×Nat
 |0,S,n=>(S,n)
 |k+1,S,n=>d_ k (gQ (bP S).1 3 0 [(bP S).2,n]).1 (gQ (bP S).1 3 0 [(bP S).2,n]).2
theorem mN:∀(k:Nat) (S:Ck) (n:Nat),(d_ k S n).1.us=S.us/\(d_ k S n).1.env=S.env
 |0,_,_=>⟨rfl,rfl⟩
 |k+1,S,n=>mN k (gQ (bP S).1 3 0 [(bP S).2,n]).1 (gQ (bP S).1 3 0 [(bP S).2,n]).2
def GI(y:Int)(r:Option (Ck×Nat)):Option (Ck×Unit):=
 match r with
 |none=>none
 |some (S',m)=>some ({ S' with env:=(y,m)::S'.env},())
theorem ZM{S S':Ck}{u:Unit}(h:wN S a b=some (S',u)):S'.env=S.env:=by
 unfold wN at h;cases he:T3 S.g a b with
 |none=>rw[he]at h;cases h
 |some g=>rw[he]at h;cases h;rfl
def aj3(f:Int)(k:Nat)(S:Ck):Option (Ck×Unit):=GI (-1-f) (eG (some (bP S)) λb a=>some (d_ k b a))
def aj4(f:Int)(k:Nat)(S:Ck):Option (Ck×Unit):=
 GI (-1-f) (eG (some (bP S)) λb o=>eG (some (bP b)) λS2 a=>eG (some (d_ k S2 a)) λc m=>eG (wN c o m) λd _=>some (d,o))
def adx(P:Bool)(f:Int)(k:Nat)(S:Ck):Option (Ck×Unit):=if P then aj3 f k S else aj4 f k S
theorem GL{y:Int}{r:Option (Ck×Nat)}{S':Ck}{u:Unit}(h:GI y r=some (S',u)):∃a m,r=some (a,m)/\S'.env=(y,m)::a.env:=by
 unfold GI at h
 split at h
 ·cases h
 ·rename_i a m;cases h;exact⟨a,m,rfl,rfl⟩
theorem UK{P:Bool}{S S':Ck}{f:Int}{u:Unit}(h:adx P f k S=some (S',u)):∃m,S'.env=(-1-f,m)::S.env:=by
 cases P with
 |true=>
  obtain⟨g,m,e,he⟩:=GL (show GI (-1-f) (some (d_ k (bP S).1 (bP S).2))=some (S',u)from h);have b:=(mN k (bP S).1 (bP S).2).2;rw[Option.some.inj e]at b;exact⟨m,by rw[he,b];rfl⟩
 |false=>
  obtain⟨g,m,e,he⟩:=GL (show GI (-1-f) (eG (wN (d_ k (bP (bP S).1).1 (bP (bP S).1).2).1 (bP S).2 (d_ k (bP (bP S).1).1 (bP (bP S).1).2).2) λc _=>some (c,(bP S).2))=some (S',u)from h);cases d:wN (d_ k (bP (bP S).1).1 (bP (bP S).1).2).1 (bP S).2 (d_ k (bP (bP S).1).1 (bP (bP S).1).2).2 with
  |none=>rw[d]at e;cases e
  |some q=>
   obtain⟨c,_⟩:=q;rw[d]at e;have b:=ZM d;have hw:=(mN k (bP (bP S).1).1 (bP (bP S).1).2).2;have a:some (c,(bP S).2)=some (g,m):=e;injection a with a;injection a with a _;refine⟨m,?_⟩;rw[he,<-a,b,hw];rfl
def tR(P:Bool):List (Int×Nat)->Ck->Option (Ck×Unit)
 |[],S=>some (S,())
 |(f,k)::l,S=>
  match adx P f k S with
  |none=>none
  |some (a,_)=>tR P l a
def gX:Ck:=⟨[],[],[]⟩
theorem rN:xU gX:=⟨Good.nil,λy m e=>(by cases e),λu hu=>(by cases hu)⟩
theorem DW(P:Bool):∀(l:List (Int×Nat)) {S S':Ck} {u:Unit},tR P l S=some (S',u)->∀y,(∃m,look S'.env y=some m)↔(∃m,look S.env y=some m)\/∃q∈l,y= -1-q.1
 |[],S,S',u,e,y=>by cases e;simp
 |(f,k)::l,S,S',u,e,y=>by
  unfold tR at e;cases b:adx P f k S with
  |none=>rw[b]at e;cases e
  |some z=>
   obtain⟨c,_⟩:=z;rw[b]at e;obtain⟨m,he⟩:=UK b;rw[DW P l e y,he,dn];by_cases hy: -1-f=y
   ·rw[aq hy];constructor
    ·intro _;exact .inr ⟨(f,k),by simp,hy.symm⟩
    ·intro _;exact .inl ⟨m,rfl⟩
   ·rw[ah hy];constructor
    ·rintro(h|⟨q,a,h⟩)
     ·exact .inl h
     ·exact .inr ⟨q,by simp[a],h⟩
    ·rintro(h|⟨q,a,h⟩)
     ·exact .inl h
     ·rcases aE.1 a with rfl|a
      ·exact ay h.symm hy
      ·exact .inr ⟨q,a,h⟩
def Nx(P:Bool)(sc:List Int)(a:Bool)(l:List (Int×Nat))(rs:List (Ru×Y8)):Option Ck:=
 match tR P l gX with
 |none=>none
 |some (b,_)=>
  match mf sc a rs 0 b with
  |none=>none
  |some (S2,_)=>
   match eX S2.g with
   |none=>none
   |some _=>some S2
def Y9(p:Nat->Bool)(n:Nat):Nat:=((List.range n).filter p).length
theorem ady(p:Nat->Bool)(n:Nat):Y9 p n<=n:=by
 unfold Y9;exact ai (List.length_filter_le _ _) (by simp)
theorem zA(p:Nat->Bool)(n:Nat):Y9 p (n+1)=Y9 p n+(if p n then 1 else 0):=by
 unfold Y9;rw[List.range_succ,List.filter_append,az]
 congr 1
 cases h:p n<;>simp[h]
theorem Kv{q:Nat->Bool}(h:∀j,p j=true->q j=true):∀n,Y9 p n<=Y9 q n
 |0=>lR
 |n+1=>by
  rw[zA,zA];have:=Kv h n;cases hp:p n with
  |false=>rw[ah (by simp)];omega
  |true=>rw[h n hp];omega
theorem UL{q:Nat->Bool}(h:∀j,p j=true->q j=true)(hp:p i=false)(b:q i=true):∀n,i<n->Y9 p n<Y9 q n
 |0,hi=>ay hi (ax _)
 |n+1,hi=>by
  rw[zA,zA];by_cases e:i=n
  ·subst e;have:=Kv h i;rw[hp,b,ah (by simp),aq rfl];omega
  ·have:=UL h hp b n (by omega);cases a:p n with
   |false=>rw[ah (by simp)];omega
   |true=>rw[h n a];omega
def iP(g:Gr)(i:Nat):Nd:=uH g (g.length+1) i
theorem uJ{g:Gr}(hw:Wf g)(k:ahc g):Trees g (iP g):=by
 obtain⟨b,d⟩:=k;obtain⟨a,c⟩:∃a:Nat->Nat,a=λi=>Y9 (λj=>decide (b j<b i)) g.length:=⟨_,rfl⟩;have e:∀i,i<g.length->∀p∈(aX g (find g i)).parts,a (find g p)<a (find g i):=λi hi p hp=>by
  have h:=d i hi p hp;rw[c];refine UL (i:=find g p) (λj f=> ?_) ?_ ?_ _ (hw.il (hw.parts _ (hw.il hi) p hp))
  ·simp only[decide_eq_true_eq]at f |-;omega
  ·simp
  ·simpa using h
 have hle:∀i,a i<=g.length:=λi=>by rw[c];exact ady _ _
 refine⟨λi j h=>Nu h _,λi hi f=> ?_,λi hi f=> ?_,a,e⟩
 ·unfold iP uH;rw[aq f]
 ·show uH g (g.length+1) i=_
  conv=>lhs;unfold uH
  rw[ah (by rw[f];simp)]
  congr 2
  refine List.map_congr_left λp hp=> ?_;have:=e i hi p hp;have l:=hle (find g i);exact DU hw e _ _ p (hw.parts _ (hw.il hi) p hp) (by omega) (by omega)
theorem DX:∀{l:List Nd},(∀t∈l,t.one.plain)->(Fo.of l).plain
 |[],_=>trivial
 |t::l,h=>by
  have a:=h t (by simp);exact⟨a.1,a.2.1,DX λx b=>h x (by simp[b])⟩
theorem Trees.plain{g:Gr}(h:Good g){t:Nat->Nd}(a:Trees g t):∀i,i<g.length->(t i).one.plain:=by
 obtain⟨c,hr⟩:=a.small;have key:∀(k i:Nat),i<g.length->c (Go.Proofs.YtnicceekibancaaGreat.find g i)<k->(t i).one.plain:=by
  intro k
  induction k with
  |zero=>intro i _ h;exact ay h (ax _)
  |succ k ih=>
   intro i hi d;have hf:=h.wf.il hi;cases b:dQ (aX g (Go.Proofs.YtnicceekibancaaGreat.find g i))with
   |true=>rw[a.free i hi b];exact⟨λ_=>rfl,trivial,trivial⟩
   |false=>
    rw[a.node i hi b];refine⟨λe=>ay e (h.one _ hf),DX λx hx=> ?_,trivial⟩;exact anE
 exact λi hi=>key _ i hi (Nat.lt_succ_self _)
theorem zB:∀(f:Fo) (vs:List Int),f.plain->(f.num vs).2.size=f.size
 | .nil,_,_=>rfl
 | .cons a n k r,vs,h=>by
  unfold Fo.num;by_cases e:a=1
  ·rw[aq e];have b:=h.1 e;subst b;show 1+0+((r.num (iw vs n)).2).size=1+0+r.size;rw[zB r _ h.2.2]
  ·rw[ah e];show 1+((k.num vs).2).size+((r.num (k.num vs).1).2).size=1+k.size+r.size;rw[zB k _ h.2.1,zB r _ h.2.2]
theorem A8:∀(f:Fo) (vs:List Int),f.plain->(f.num vs).2.list.map Nd.size=f.list.map Nd.size
 | .nil,_,_=>rfl
 | .cons a n k r,vs,h=>by
  unfold Fo.num;by_cases e:a=1
  ·rw[aq e];have b:=h.1 e;subst b;show(Nd.mk 1 _ .nil).size::_=(Nd.mk a n .nil).size::r.list.map Nd.size;rw[A8 r _ h.2.2];rfl
  ·rw[ah e];show(Nd.mk a n (k.num vs).2).size::_=(Nd.mk a n k).size::r.list.map Nd.size;rw[A8 r _ h.2.2]
   congr 1
   unfold Nd.size;rw[zB k _ h.2.1]
def uK(ts:List Nd):Option (List Nd):=
 if(ts.all λt=>decide (t.size<=20))&&decide (((Fo.of ts).num []).1.length<=20)then some ((Fo.of ts).num []).2.list else none
def Kw(g:Gr)(ns:List Nat):Option (List Nd):=uK (ns.map (iP g))
structure Y_ (φ:Nd->Nd):Prop where
 node:∀(a n:Int) (l:List Nd),a≠1->φ ⟨a,n,Fo.of l⟩=⟨a,n,Fo.of (l.map φ)⟩
namespace Y_
variable {φ:Nd->Nd}
theorem UM(h:Y_ φ){a n:Int}(k:Fo)(b:a≠1):φ ⟨a,n,k⟩=⟨a,n,Fo.of (k.list.map φ)⟩:=by
 rw[<-h.node a n k.list b,Fo.l9]
theorem same:Y_ λt=>t:=⟨λa n l _=>by rw[List.map_id']⟩
theorem put(s:Int->Nd):Y_ (Nd.put s):=⟨λa n l b=>by rw[pq b,Fo.IQ]⟩
theorem int(h:Y_ φ):φ ZJ=ZJ:=h.node 2 0 [] (by decide)
theorem bool(h:Y_ φ):φ PV=PV:=h.node 4 0 [] (by decide)
theorem arrow(h:Y_ φ)(a b:Nd):φ (IS a b)=IS (φ a) (φ b):=h.node 3 0 [a,b] (by decide)
theorem list(h:Y_ φ){ps:List Nd}:∀(F:Fo),(∀x,F.has x->0<=x/\x.toNat<ps.length)->F.list.map (λt=>φ (t.put (A2 ps)))=F.list.map (Nd.put (A2 (ps.map φ)))
 | .nil,_=>rfl
 | .cons a n k r,c=>by
  show φ (Nd.put (A2 ps) ⟨a,n,k⟩)::r.list.map _=Nd.put (A2 (ps.map φ)) ⟨a,n,k⟩::r.list.map _;by_cases e:a=1
  ·rw[list h r (λx b=>c x (by unfold Fo.has;rw[aq e];exact .inr b)),zh e,zh e]
   congr 1
   obtain⟨f,d⟩:=c n (by unfold Fo.has;rw[aq e];exact .inl rfl);unfold A2;rw[List.getElem?_map,ae d];rfl
  ·rw[list h r (λx b=>c x (by unfold Fo.has;rw[ah e];exact .inr b)),pq e,pq e,h.UM _ e,Fo.l_,List.map_map];have:=list h k (λx b=>c x (by unfold Fo.has;rw[ah e];exact .inl b))
   congr 2
   rw[<-Fo.l9 (k.put (A2 (ps.map φ))),Fo.l_,<-this];rfl
theorem ty(h:Y_ φ){T:Nd}(b:T.ok){ps:List Nd}(c:ps.length=T.i_):φ (T.put (A2 ps))=T.put (A2 (ps.map φ)):=by
 have:=list h (ps:=ps) T.one (λx a=>⟨b.var x a,by rw[c,<-Nd.nz];exact Fo.nA _ _ a⟩);have e:T.one.list=[T]:=rfl;rw[e]at this;simpa using this
end Y_
end
section
structure sr where
 name:ByteArray
 args:Int
deriving DecidableEq,Inhabited
structure fV where
 name:ByteArray
 params:Int
 cons:List Fo
deriving DecidableEq,Inhabited
structure oN where
 fn:Int
 bT:Fo
 rhs:Nd
 vars:Int
deriving DecidableEq,Inhabited
structure Sg where
 cons:List sr
 bj:List sr
structure Pg where
 sig:Sg
 rules:List oN
structure Md where
 bH:List fV
 prog:Pg
def bS(l:List sr)(i:Nat):sr:=l[i]?.getD default
def dD(l:List Fo)(i:Nat):Fo:=l[i]?.getD .nil
def b8(l:List fV)(i:Nat):fV:=l[i]?.getD default
def cQ(l:List oN)(i:Nat):oN:=l[i]?.getD default
def adz(r:oN):Ru:=⟨r.fn,r.bT,r.rhs.a,r.rhs.n,r.rhs.k⟩
def ZN(d:fV):Da:=⟨d.params,d.cons⟩
def kn(m:Md)(types:List Nd)(l:List Int):Kn:=⟨m.bH.map ZN,types,λf=>l.contains f⟩
def Kx(P:Bool):Ck->Nd->Ck×(Nat×List Nat):=if P then er else ahe
def IU(P:Bool)(C:Kn)(r:oN):Y8:=⟨rM P (Kx P) C r.bT,xW P (Kx P) C r.rhs.a r.rhs.n (rM P (Kx P) C r.rhs.k)⟩
def sE(P:Bool)(C:Kn)(r:oN):Ru×Y8:=(adz r,IU P C r)
def IV(P:Bool):List Int:=if P then[]else(List.range 20).map λi=>((i:Nat):Int)
def mg(m:Md)(f:Int):Nat:=(bS m.prog.sig.bj f.toNat).args.toNat
def qQ(m:Md)(l:List Int):List oN:=m.prog.rules.filter λr=>l.contains r.fn
def od(P:Bool)(m:Md)(types:List Nd)(l:List Int):Option Ck:=
 Nx P (IV P) P (l.map λf=>(f,mg m f)) ((qQ m l).map (sE P (kn m types l)))
structure CB (C:Kn) (F:Fo):Prop where
 lets:F.lets
 fns:F.fns λf=>0<=f/\A5 C f
structure aj5 (C:Kn) (r:oN):Prop where
 bT:CB C r.bT
 rhs:CB C r.rhs.one
structure CC (C:Kn) (m:Md) (l:List Int):Prop where
 con:xY C
 rules:∀r∈qQ m l,aj5 C r
 nodup:l.Nodup
 pos:∀f∈l,0<=f
section
variable {m:Md} {types:List Nd} {l:List Int}
theorem Ny(h:CC (kn m types l) m l)(f:Int):(kn m types l).own f=true↔0<=f/\∃q∈l.map λf=>(f,mg m f),f=q.1:=by
 show l.contains f=true↔_;rw[bh];constructor
 ·intro a;exact⟨h.pos f a,(f,mg m f),aN.2 ⟨f,a,rfl⟩,rfl⟩
 ·rintro⟨_,q,b,rfl⟩;obtain⟨f,a,rfl⟩:=aN.1 b;exact a
theorem Ky(h:CC (kn m types l) m l):((l.map λf=>(f,mg m f)).map (·.1)).Nodup:=by
 rw[List.map_map];have:((λq:Int×Nat=>q.1) ∘ λf=>(f,mg m f))=id:=rfl;rw[this,List.map_id];exact h.nodup
def hO(S:Ck)(f:Int):Nat:=(look S.env (-1-f)).getD 0
inductive PY (α:Type) where
 |ok (a:α):PY α
 |rp:PY α
 |px:PY α
deriving DecidableEq
def oe(P:Bool)(m:Md)(types:List Nd)(l:List Int):PY (List Nd):=
 match od P m types l with
 |none=>.rp
 |some S=>match Kw S.g (l.map (hO S))with
  |none=>.px
  |some ts=>.ok ts
end
theorem zC:∀{l:List Int} {x:Int},x∈l->l[l.idxOf x]? =some x
 |y::l,x,h=>by
  rw[List.idxOf_cons];cases e:y==x with
  |true=>
   have a:y=x:=by simpa using e
   subst a;rfl
  |false=>
   have a:y≠x:=by simpa using e
   have b:x∈l:=by
    rcases aE.1 h with rfl|h
    ·exact ay rfl a
    ·exact h
   simpa using zC b
theorem IW:∀{l w:List Int} {x:Int},x∈l->(l++w).idxOf x=l.idxOf x
 |y::l,w,x,h=>by
  rw[bJ,List.idxOf_cons,List.idxOf_cons];cases e:y==x with
  |true=>rfl
  |false=>
   have a:y≠x:=by simpa using e
   have b:x∈l:=by
    rcases aE.1 h with rfl|h
    ·exact ay rfl a
    ·exact h
   rw[IW b]
theorem C7:∀{l:List Int} {x:Int},x ∉ l->l.idxOf x=l.length/\(l++[x]).idxOf x=l.length
 |[],x,_=>⟨rfl,by simp⟩
 |y::l,x,h=>by
  have c:y≠x:=λe=>h (by simp[e]);have e:(y==x)=false:=by simpa using c
  obtain⟨a,b⟩:=C7 (l:=l) (x:=x) λd=>h (by simp[d]);rw[bJ,List.idxOf_cons,List.idxOf_cons,e];exact⟨by simp[a],by simp[b]⟩
theorem UN(vs:List Int)(x:Int):∃w,iw vs x=vs++w:=by
 unfold iw
 split
 ·exact⟨[],(bk _).symm⟩
 ·exact⟨[x],rfl⟩
theorem DY(vs:List Int)(x:Int):x∈iw vs x:=by
 unfold iw
 split
 ·assumption
 ·simp
theorem zD(vs:List Int)(x:Int)(w:List Int):qF vs x=((iw vs x++w).idxOf x:Nat):=by
 unfold qF iw
 congr 1
 split
 ·rename_i h;rw[IW h]
 ·rename_i h;rw[IW (by simp),(C7 h).1,(C7 h).2]
theorem kJ:∀(f:Fo) (vs:List Int),∃w,(f.num vs).1=vs++w
 | .nil,vs=>⟨[],(bk _).symm⟩
 | .cons a n k r,vs=>by
  unfold Fo.num
  split
  ·obtain⟨w1,b⟩:=UN vs n;obtain⟨c,d⟩:=kJ r (iw vs n);exact⟨w1++c,by show(r.num (iw vs n)).1=_;rw[d,b,aG]⟩
  ·obtain⟨w1,b⟩:=kJ k vs;obtain⟨c,d⟩:=kJ r (k.num vs).1;exact⟨w1++c,by show(r.num (k.num vs).1).1=_;rw[d,b,aG]⟩
theorem C8:∀(f:Fo) (vs w:List Int),f.plain->f.put (λx=>⟨1,(((f.num vs).1++w).idxOf x:Nat),.nil⟩)=(f.num vs).2
 | .nil,_,_,_=>rfl
 | .cons a n k r,vs,w,h=>by
  unfold Fo.num Fo.put;by_cases e:a=1
  ·rw[aq e,aq e];obtain⟨c,b⟩:=kJ r (iw vs n);show Fo.cons 1 (((r.num (iw vs n)).1++w).idxOf n:Nat) .nil (r.put λx=>⟨1,(((r.num (iw vs n)).1++w).idxOf x:Nat),.nil⟩)=.cons 1 (qF vs n) .nil (r.num (iw vs n)).2;rw[C8 r (iw vs n) w h.2.2,b,aG,<-zD]
  ·rw[ah e,ah e];obtain⟨c,b⟩:=kJ r (k.num vs).1;show Fo.cons a n (k.put λx=>⟨1,(((r.num (k.num vs).1).1++w).idxOf x:Nat),.nil⟩) (r.put λx=>⟨1,(((r.num (k.num vs).1).1++w).idxOf x:Nat),.nil⟩)=.cons a n (k.num vs).2 (r.num (k.num vs).1).2;rw[C8 r (k.num vs).1 w h.2.2,b,aG,C8 k vs (c++w) h.2.1]
theorem zE:∀(f:Fo) (vs w:List Int),f.plain->(f.num vs).2.put (λi=>⟨1,((f.num vs).1++w)[i.toNat]?.getD 0,.nil⟩)=f
 | .nil,_,_,_=>rfl
 | .cons a n k r,vs,w,h=>by
  unfold Fo.num;by_cases e:a=1
  ·rw[aq e];have d:=h.1 e;subst d;obtain⟨b,c⟩:=kJ r (iw vs n);show Fo.put _ (.cons 1 (qF vs n) .nil (r.num (iw vs n)).2)=_;unfold Fo.put;rw[aq rfl];show Fo.cons 1 (((r.num (iw vs n)).1++w)[(qF vs n).toNat]?.getD 0) .nil ((r.num (iw vs n)).2.put λi=>⟨1,((r.num (iw vs n)).1++w)[i.toNat]?.getD 0,.nil⟩)=_;rw[zE r (iw vs n) w h.2.2,c,aG,zD vs n (b++w),bw,zC (by simp[DY]),e]
   rfl
  ·rw[ah e];obtain⟨b,c⟩:=kJ r (k.num vs).1;show Fo.put _ (.cons a n (k.num vs).2 (r.num (k.num vs).1).2)=_;unfold Fo.put;rw[ah e];show Fo.cons a n ((k.num vs).2.put λi=>⟨1,((r.num (k.num vs).1).1++w)[i.toNat]?.getD 0,.nil⟩) ((r.num (k.num vs).1).2.put λi=>⟨1,((r.num (k.num vs).1).1++w)[i.toNat]?.getD 0,.nil⟩)=_;rw[zE r (k.num vs).1 w h.2.2,c,aG,zE k vs (b++w) h.2.1]
theorem C9:∀(f:Fo) (vs:List Int),∀x,(f.num vs).2.has x->0<=x/\x.toNat<(f.num vs).1.length
 | .nil,_,_,h=>h.elim
 | .cons a n k r,vs,x,h=>by
  unfold Fo.num at h |-;by_cases e:a=1
  ·rw[aq e]at h |-;obtain⟨b,c⟩:=kJ r (iw vs n);have h:Fo.has (.cons 1 (qF vs n) .nil (r.num (iw vs n)).2) x:=h;unfold Fo.has at h;rw[aq rfl]at h;show 0<=x/\x.toNat<(r.num (iw vs n)).1.length;rcases h with rfl|h
   ·rw[zD vs n b,bw,c];refine⟨by omega,?_⟩;have:=zC (l:=iw vs n++b) (x:=n) (by simp[DY]);exact(cL.1 this).1
   ·exact C9 r _ x h
  ·rw[ah e]at h |-;obtain⟨b,c⟩:=kJ r (k.num vs).1;have h:Fo.has (.cons a n (k.num vs).2 (r.num (k.num vs).1).2) x:=h;unfold Fo.has at h;rw[ah e]at h;show 0<=x/\x.toNat<(r.num (k.num vs).1).1.length;rcases h with h|h
   ·have:=C9 k vs x h;rw[c,az];omega
   ·exact C9 r _ x h
theorem vW:∀(f:Fo) (vs:List Int),f.plain->(f.num vs).2.plain
 | .nil,_,_=>trivial
 | .cons a n k r,vs,h=>by
  unfold Fo.num
  split
  ·exact⟨λ_=>rfl,trivial,vW r _ h.2.2⟩
  ·rename_i e;exact⟨λb=>ay b e,vW k _ h.2.1,vW r _ h.2.2⟩
theorem C_:∀(f:Fo) (vs:List Int),f.jL->(f.num vs).2.jL
 | .nil,_,_=>trivial
 | .cons a n k r,vs,h=>by
  unfold Fo.num
  split
  ·exact⟨by decide,trivial,C_ r _ h.2.2⟩
  ·exact⟨h.1,C_ k _ h.2.1,C_ r _ h.2.2⟩
theorem Nz:∀{l:List Nd},(∀t∈l,t.one.jL)->(Fo.of l).jL
 |[],_=>trivial
 |t::l,h=>by
  have a:=h t (by simp);exact⟨a.1,a.2.1,Nz λx b=>h x (by simp[b])⟩
theorem Trees.jL{g:Gr}(h:Good g){t:Nat->Nd}(b:Trees g t):∀i,i<g.length->(t i).one.jL:=by
 obtain⟨c,hr⟩:=b.small;have key:∀(k i:Nat),i<g.length->c (Go.Proofs.YtnicceekibancaaGreat.find g i)<k->(t i).one.jL:=by
  intro k
  induction k with
  |zero=>intro i _ h;exact ay h (ax _)
  |succ k ih=>
   intro i hi d;have hf:=h.wf.il hi;cases a:dQ (aX g (Go.Proofs.YtnicceekibancaaGreat.find g i))with
   |true=>rw[b.free i hi a];exact⟨(by decide:(1:Int)≠0),trivial,trivial⟩
   |false=>
    rw[b.node i hi a];refine⟨by unfold dQ at a;simpa using a,Nz λx hx=> ?_,trivial⟩;exact anE
 exact λi hi=>key _ i hi (Nat.lt_succ_self _)
theorem PZ:∀{F:Fo},F.jL->∀t∈F.list,t.one.jL
 | .cons a n k r,h,t,b=>by
  rcases aE.1 b with rfl|b
  ·exact⟨h.1,h.2.1,trivial⟩
  ·exact PZ h.2.2 t b
theorem GM:∀{F:Fo},F.plain->∀t∈F.list,t.one.plain
 | .cons a n k r,h,t,b=>by
  rcases aE.1 b with rfl|b
  ·exact⟨h.1,h.2.1,trivial⟩
  ·exact GM h.2.2 t b
theorem P0:∀{F:Fo} {t:Nd},t∈F.list->∀x,t.one.has x->F.has x
 | .cons a n k r,t,c,x,b=>by
  rcases aE.1 c with rfl|c
  ·unfold Fo.has;unfold Nd.one Fo.has at b;by_cases e:a=1
   ·rw[aq e]at b |-;rcases b with h|h
    ·exact .inl h
    ·exact h.elim
   ·rw[ah e]at b |-;rcases b with h|h
    ·exact .inl h
    ·exact h.elim
  ·have:=P0 c x b;unfold Fo.has
   split<;>exact .inr this
structure Read (t:Nd):Prop where
 ok:t.ok
 size:t.size<=20
 vars:∀x,t.one.has x->x<20
theorem Kz{ts us:List Nd}(hp:∀t∈ts,t.one.plain)(g:∀t∈ts,t.one.jL)(h:uK ts=some us):
 us.length=ts.length/\(∀t∈us,Read t)/\∃s s':Int->Nd,us=ts.map (Nd.put s)/\ts=us.map (Nd.put s'):=by
 unfold uK at h
 split at h
 case isFalse=>cases h
 rename_i hc;rw[ak,aK,decide_eq_true_eq]at hc;obtain⟨j,o⟩:=hc;cases h;have b:=DX hp;have k:=Nz g;have l:=C8 (Fo.of ts) [] [] b;have m:=zE (Fo.of ts) [] [] b;have c:=A8 (Fo.of ts) [] b;rw[Fo.lF]at c;have hlen:((Fo.of ts).num []).2.list.length=ts.length:=by
  have:=congrArg List.length c;simpa using this
 refine⟨hlen,λt hm=> ?_,λx=>⟨1,((((Fo.of ts).num []).1++[]).idxOf x:Nat),.nil⟩,λi=>⟨1,(((Fo.of ts).num []).1++[])[i.toNat]?.getD 0,.nil⟩,?_,?_⟩
 ·have d:=GM (vW (Fo.of ts) [] b) t hm;have f:=λx a=>C9 (Fo.of ts) [] x (P0 hm x a);refine⟨⟨PZ (C_ (Fo.of ts) [] k) t hm,λx a=>(f x a).1,d⟩,?_,λx a=> ?_⟩
  ·have n:t.size∈ts.map Nd.size:=by rw[<-c];exact aN.2 ⟨t,hm,rfl⟩
   obtain⟨u,hu,e⟩:=aN.1 n;rw[<-e];simpa using j u hu
  ·have:=f x a;omega
 ·rw[<-l,Fo.l_,Fo.lF]
 ·conv=>lhs;rw[<-Fo.lF ts,<-m,Fo.l_]
theorem Fo.KA(s:Int->Nd)(a n:Int)(k r:Fo):(Fo.cons a n k r).put s=if a=1 then .cons (s n).a (s n).n (s n).k (r.put s)else .cons a n (k.put s) (r.put s):=rfl
section
variable {m:Md} {types:List Nd} {l:List Int}
end
end
section
open Go Go.RowKit
def aH(P:Program)(f:FuncId)(args:Array Value)(w:World)(v:Value):Prop:=
 Calls P f args w λe w'=>e=.returned v/\Below w.heap.size w w'
theorem aH.of_same{f:FuncId}{args:Array Value}
 (h:Calls P f args w λe w'=>e=.returned v/\w'=w):aH P f args w v:=
 h.mono λ_ _ ⟨he,hw⟩=>⟨he,hw ▸ Below.refl _ _⟩
def Row(w:World)(B sz:Nat)(v:Value)(n:Nat)(c:Nat->Value):Prop:=
 n<=140737488355328/\∃a cap,v=.slice a n cap/\n<=cap/\cap<=maxLen/\(0<n->∃b off,a=some ⟨b,off,none⟩/\b<B/\∀i,i<n*sz->w.cell? ⟨b,off+i,none⟩=some (c i))
theorem Row.below{sz:Nat}{c:Nat->Value}(h:Row w B sz v n c){B':Nat}(e:Below B' w w')(hB:B<=B'):Row w' B sz v n c:=by
 obtain⟨f,a,cap,g,hc,hm,j⟩:=h;refine⟨f,a,cap,g,hc,hm,λk=> ?_⟩;obtain⟨b,off,l,d,m⟩:=j k;exact⟨b,off,l,d,λi hi=>(e.cell (p:=⟨b,off+i,none⟩) (by exact aC d hB)).trans (m i hi)⟩
theorem Row.mono{sz:Nat}{c:Nat->Value}(h:Row w B sz v n c){B':Nat}(hB:B<=B'):Row w B' sz v n c:=by
 obtain⟨d,a,cap,e,hc,hm,f⟩:=h;refine⟨d,a,cap,e,hc,hm,λg=> ?_⟩;obtain⟨b,off,i,k,j⟩:=f g;exact⟨b,off,i,by omega,j⟩
def py(n:Nat):Prop:=n<18446744073709551616
def og(e:Nat):Nat:=2^e
def UO(a b:Nat):Nat:=a &&& b
def wO(a b:Nat):Nat:=a ||| b
def DZ(a b:Nat):Nat:=a ^^^ (a &&& b)
theorem sF(e i:Nat):(og e).testBit i=decide (e=i):=by unfold og;exact Nat.testBit_two_pow
theorem jw(a b i:Nat):(wO a b).testBit i=(a.testBit i||b.testBit i):=Nat.testBit_or _ _ _
theorem rq(a b i:Nat):(DZ a b).testBit i=(a.testBit i&& !b.testBit i):=by
 unfold DZ;rw[Nat.testBit_xor,Nat.testBit_and];cases a.testBit i<;>cases b.testBit i<;>rfl
theorem py.or(c:py a)(d:py b):py (wO a b):=Nat.or_lt_two_pow (n:=64) c d
theorem py.bit{e:Nat}(h:e<64):py (og e):=Nat.pow_lt_pow_right (by decide) h
theorem zF(c:py a)(d:py b):bits .and .u64 (a:Int) (b:Int)=((UO a b:Nat):Int):=u64_and_nat a b c d
theorem Db(c:py a)(d:py b):bits .or .u64 (a:Int) (b:Int)=((wO a b:Nat):Int):=u64_or_nat a b c d
theorem vX(c:py a)(d:py b):bits .andNot .u64 (a:Int) (b:Int)=((DZ a b:Nat):Int):=by
 rw[u64_andNot_nat a b c d]
 congr 1
 apply Nat.eq_of_testBit_eq;intro i;have e:b<2^64:=d;have f:a<2^64:=c;rw[rq,Nat.testBit_and,show 18446744073709551615-b=2^64-(b+1)by omega,Nat.testBit_two_pow_sub_succ e];by_cases hi:i<64
 ·cases a.testBit i<;>cases b.testBit i<;>simp[hi]
 ·have:a.testBit i=false:=Nat.testBit_lt_two_pow (aC f (Nat.pow_le_pow_right (by decide) (by omega)));simp[this]
theorem cW(n:Nat):(((n:Nat):Int)==0)=(n==0):=by rw[aP];simp
theorem df(n:Nat):(((n:Nat):Int) != 0)= !(n==0):=by rw[bne,cW]
theorem jT(c e:Nat):(((UO c (og e):Nat):Int)==0)= !c.testBit e:=by
 have hp:=Nat.two_pow_pos e;have hm:c/2^e % 2=0\/c/2^e % 2=1:=by omega
 unfold UO og;rw[nat_bit,Nat.testBit_eq_decide_div_mod_eq];rcases hm with hm|hm
 ·rw[hm];simp
 ·rw[hm,Nat.one_mul];generalize 2^e=q at hp;simp;omega
theorem mh(c e:Nat):(UO c (og e)==0)= !c.testBit e:=by rw[<-cW,jT]
theorem kK(c e:Nat):(((UO c (og e):Nat):Int) != 0)=c.testBit e:=by
 rw[bne,jT c e,Bool.not_not]
def idxOf(p:Nat->Bool)(n:Nat):Int:=match(List.range n).find? p with|some k=>k|none=> -1
theorem D0(h:∀j,j<n->p j=false):idxOf p n= -1:=by
 unfold idxOf;rw[List.find?_eq_none.2 (by intro x a;rw[h x (bq.1 a)];decide)]
theorem xZ(a:k<n)(h:∀j,j<k->p j=false)(hp:p k=true):idxOf p n=k:=by
 unfold idxOf;have:(List.range n).find? p=some k:=by
  rw[List.find?_range_eq_some];exact⟨hp,bq.2 a,λj b=>by rw[h j b];rfl⟩
 rw[this]
theorem Rz(p:Nat->Bool)(n:Nat):decide (0<=idxOf p n)=(List.range n).any p:=by
 unfold idxOf;cases h:(List.range n).find? p with
 |none=>
  rw[List.find?_eq_none]at h;have:(List.range n).any p=false:=by rw[b5];intro hc;obtain⟨x,a,hp⟩:=List.any_eq_true.1 hc;exact h x a hp
  rw[this];rfl
 |some k=>
  have hp:=List.find?_some h;have hm:=List.mem_of_find?_eq_some h;rw[List.any_eq_true.2 ⟨k,hm,hp⟩];simp
theorem Row.take{sz:Nat}{a:Option Addr}{cap:Nat}{c:Nat->Value}(h:Row w B sz (.slice a n cap) n c)(hi:i<=n):Row w B sz (.slice a i cap) i c:=by
 obtain⟨m,o,p,d,hc,hm,e⟩:=h;cases d;refine⟨by omega,a,cap,rfl,by omega,hm,λq=> ?_⟩;obtain⟨b,off,f,g,k⟩:=e (by omega);exact⟨b,off,f,g,λj l=>k j (aC l (Nat.mul_le_mul_right _ hi))⟩
open Go.Sort in
theorem aT{d:Nat}{os:Array Obj}(b o:Nat)(h:b<w.heap.size):(grow (redrawn w d) os).cell? ⟨b,o,none⟩=w.cell? ⟨b,o,none⟩:=(below_regrown w d os).cell (p:=⟨b,o,none⟩) h
open Go.Sort in
theorem aM{id:Nat}{a:Act}{l:List Oper}(hm:P.follows .mixedOrders=true)(hB:Region.lexB .any l.toArray=true)
 (h:wpQuiet P l.toArray (λw'=>∃p:Regrown,w'=grow (redrawn w p.d) p.os) (λb=>∀w',Below w.heap.size w w'->Q .normal b w') l a):(Code.region id l.toArray true).wp P Q a w:=by
 refine wp_region_quiet (C:=λw'=>∃p:Regrown,w'=grow (redrawn w p.d) p.os) hm hB ⟨⟨w.drawn+1,#[]⟩,by rw[grow_empty];rfl⟩ ?_;have key:∀(c:List Oper) (a:Act),wpQuiet P l.toArray (λw'=>∃p:Regrown,w'=grow (redrawn w p.d) p.os) (λb=>∀w',Below w.heap.size w w'->Q .normal b w') c a->
  wpQuiet P l.toArray (λw'=>∃p:Regrown,w'=grow (redrawn w p.d) p.os) (λb=>∀w',(∃p:Regrown,w'=grow (redrawn w p.d) p.os)->Q .normal b w') c a:=by
  intro c
  induction c with
  |nil=>intro a h w' ⟨p,hp⟩;exact h w' (hp ▸ below_regrown w p.d p.os)
  |cons o c d=>
   intro a h;unfold wpQuiet at h |-
   split
   ·rename_i hw;rw[aq hw]at h;exact Oper.quiet_mono (λa=>d a) h
   ·rename_i hw;rw[ah hw]at h;exact d _ h
 exact key _ _ (by simpa using h)
open Go.Sort in
theorem aH.quiet{f:FuncId}{args:Array Value}{d:Nat}{os:Array Obj}(h:aH P f args (grow (redrawn w d) os) v):
 Calls P f args (grow (redrawn w d) os) λe a=>e=.returned v/\∃p:Regrown,a=grow (redrawn w p.d) p.os:=Calls.regrown_of h
theorem uL(w:World)(es:Array MapEntry)(c:Nat):(getObj w.heap.size).run P (w.alloc (.map es c))=.ok (.map es c) (w.alloc (.map es c)):=by
 simp only[getObj,Sem.run,heap_alloc_last]
theorem D1(w:World)(es a:Array MapEntry)(c b:Nat):(setObj w.heap.size (.map a b)).run P (w.alloc (.map es c))=.ok () (w.alloc (.map a b)):=by
 simp only[setObj,Sem.run,heap_alloc_last]
 congr 1
 simp only[World.alloc]
 congr 1
 apply Array.ext_getElem?;intro i;by_cases h:w.heap.size=i
 ·subst h;simp
 ·have h':¬i=w.heap.size:=λe=>h e.symm;simp[h,h',Array.getElem?_push]
theorem gI(w:World){kt et:TypeId}(es:Array MapEntry)(clock:Nat)(key v:Value)(hu:P.underlying t=some (.map kt et))
 (hc:∀w,(Instr.checkKey false 10000 kt key).run P w=.ok () w) (a:∀w,(Instr.findKey kt key es.toList).run P w=.ok none w):
 (Instr.mapUpdate t (.map (some w.heap.size)) key v).run P (w.alloc (.map es clock))=.ok () (w.alloc (.map (es.push { key,val:=v,born:=clock}) (clock+1))):=by
 simp only[Instr.mapUpdate,bB,run_underlying hu,bg,uL,hc,a,D1]
theorem gJ(w:World){kt et:TypeId}(es:Array MapEntry)(clock:Nat)(key v:Value)(i:Nat)(hu:P.underlying t=some (.map kt et))(he:es.isEmpty=false)
 (hc:∀w,(Instr.checkKey false 10000 kt key).run P w=.ok () w) (a:∀w,(Instr.findKey kt key es.toList).run P w=.ok (some (i,v)) w):
 (Instr.lookup t (.map (some w.heap.size)) key false).run P (w.alloc (.map es clock))=.ok v (w.alloc (.map es clock)):=by
 simp only[Instr.lookup,bB,run_underlying hu,bg,uL,he,hc,a,Sem.run_pure,bF,if_false]
theorem eR{c:Code}{a:Act}{W:World}(R:World->Prop)(b:R W)(h:∀W',R W'->Code.wp P c Q a W'):Code.wp P c Q a W:=h W b
theorem a_(w:World)(o:Obj):(w.alloc o).heap[w.heap.size]? =some o:=heap_alloc_last w o
theorem sG(h:k=w.heap.size):(w.alloc o).heap[k]? =some o:=by subst h;exact heap_alloc_last w o
theorem fH{o':Obj}(h:w.heap[k]? =some o'):(w.alloc o).heap[k]? =some o':=(Below.heap_alloc _ _ _ (Array.getElem?_eq_some_iff.1 h).1).trans h
theorem cH(w:World)(a b:Obj):((w.alloc a).alloc b).heap[w.heap.size]? =some a/\((w.alloc a).alloc b).heap[w.heap.size+1]? =some b:=
 ⟨fH (a_ _ _),sG (by simp)⟩
theorem jf(w:World)(a b c:Obj):(((w.alloc a).alloc b).alloc c).heap[w.heap.size]? =some a/\(((w.alloc a).alloc b).alloc c).heap[w.heap.size+1]? =some b/\(((w.alloc a).alloc b).alloc c).heap[w.heap.size+2]? =some c:=
 ⟨fH (cH _ _ _).1,fH (cH _ _ _).2,sG (by simp)⟩
theorem mO(w:World)(a b c d:Obj):((((w.alloc a).alloc b).alloc c).alloc d).heap[w.heap.size]? =some a/\((((w.alloc a).alloc b).alloc c).alloc d).heap[w.heap.size+1]? =some b/\
 ((((w.alloc a).alloc b).alloc c).alloc d).heap[w.heap.size+2]? =some c/\((((w.alloc a).alloc b).alloc c).alloc d).heap[w.heap.size+3]? =some d:=
 ⟨fH (jf _ _ _ _).1,fH (jf _ _ _ _).2.1,fH (jf _ _ _ _).2.2,sG (by simp)⟩
theorem Below.cA(w:World)(o:Obj):Below w.heap.size w (w.alloc o):=(Below.refl _ _).alloc (Nat.le_refl _) _
theorem Below.jE(w:World)(a b:Obj):Below w.heap.size w ((w.alloc a).alloc b):=(Below.cA w a).alloc (by simp) _
theorem Below.F0(w:World)(a b c:Obj):Below w.heap.size w (((w.alloc a).alloc b).alloc c):=(Below.jE w a b).alloc (by simp;omega) _
theorem qS(w:World)(o:Obj):Below w.heap.size w (w.alloc o)/\(w.alloc o).heap[w.heap.size]? =some o:=⟨Below.cA w o,a_ w o⟩
theorem nH2(w:World)(a b:Obj):Below w.heap.size w ((w.alloc a).alloc b)/\((w.alloc a).alloc b).heap[w.heap.size]? =some a/\((w.alloc a).alloc b).heap[w.heap.size+1]? =some b:=⟨Below.jE w a b,cH w a b⟩
theorem nH3(w:World)(a b c:Obj):Below w.heap.size w (((w.alloc a).alloc b).alloc c)/\(((w.alloc a).alloc b).alloc c).heap[w.heap.size]? =some a/\(((w.alloc a).alloc b).alloc c).heap[w.heap.size+1]? =some b/\(((w.alloc a).alloc b).alloc c).heap[w.heap.size+2]? =some c:=⟨Below.F0 w a b c,jf w a b c⟩
theorem CD(w:World)(o:Obj):∃v:World,v=w.alloc o/\Below w.heap.size w v/\v.heap[w.heap.size]? =some o:=⟨_,rfl,qS w o⟩
theorem UP(w:World)(a b:Obj):∃v:World,v=(w.alloc a).alloc b/\Below w.heap.size w v/\v.heap[w.heap.size]? =some a/\v.heap[w.heap.size+1]? =some b:=⟨_,rfl,nH2 w a b⟩
theorem UQ(w:World)(a b c:Obj):∃v:World,v=((w.alloc a).alloc b).alloc c/\Below w.heap.size w v/\v.heap[w.heap.size]? =some a/\v.heap[w.heap.size+1]? =some b/\v.heap[w.heap.size+2]? =some c:=⟨_,rfl,nH3 w a b c⟩
theorem Below.ZO(w:World)(a b c d:Obj):Below w.heap.size w ((((w.alloc a).alloc b).alloc c).alloc d):=(Below.F0 w a b c).alloc (by simp;omega) _
theorem dz{ty:TypeId}{d:TypeDesc}{a:Addr}(hu:P.underlying ty=some d)(c:d.isRow=false)(hc:w.cell? a=some v):(loadVar ty a).run P w=.ok v w:=by
 have b:(isAgg ty).run P w=.ok false w:=by
  unfold isAgg;rw[bB,run_underlying hu w];cases d<;>simp_all
 simp[loadVar,bB,b,load,Sem.run,hc]
theorem di{fn:Func}{p:Tmp}{ty:TypeId}(h:fn.results= #[.cell p ty]){tmps:Array Value}{a:Addr}(hp:tmps.getD p undef=.pointer (some a))(b:(loadVar ty a).run P w=.ok v w):
 (results fn tmps).run P w=.ok v w:=by
 have c:tmps[p]?.getD undef=.pointer (some a):=by rw[<-hp];simp
 simp[results,h,c,asAddr,b]
end
section
open Go Go.RowKit Go.Sort
section
variable {P:Program} {ops:Array Oper} {md:Region.Mode} {C:World->Prop}
def D2(P:Program)(md:Region.Mode)(ops:Array Oper)(C:World->Prop)(n:Nat)(L:Array Bool->Act->Prop):Nat->Array Bool->Act->Prop
 |0,listed,a=>L listed a
 |f+1,listed,a=>
  Region.ready md ops listed≠[]/\∀i∈Region.ready md ops listed,i<n/\qOp P ops C i (D2 P md ops C n L f (listed.setIfInBounds i true)) a
theorem uM{g:Nat}{L:Array Bool->Act->Prop}{Q':Exit->Act->World->Prop}(c:∀listed a w,C w->L listed a->wpAny P md ops Q' g listed a w):
 ∀(f:Nat) (listed:Array Bool) (a:Act) (w:World),C w->D2 P md ops C n L f listed a->wpAny P md ops Q' (f+g) listed a w
 |0,listed,a,w,hw,h=>by rw[a8];exact c _ _ _ hw h
 |f+1,listed,a,w,hw,h=>by
  rw[show f+1+g=(f+g)+1 by omega];exact⟨λd=>ay d h.1,λi hi=>wpOp_of_qOp hw (λe w' b h'=>uM c f _ e w' b h') (h.2 i hi).2⟩
theorem IX{l:Oper}{L:Array Bool->Act->Prop}(hi:ops[i]? =some l)(s:∀(j:Nat) (o:Oper) cs b,ops[j]? =some o->o.op≠.select cs b)
 (hs:Region.sinkB md ops n=true) (hc:Region.chainB md ops n=true) (hn:n<ops.size) (oF:i<n)
 (w:∀listed a,L listed a->∀j∈Region.ready md ops listed,n<=j):
 ∀(f:Nat) (listed:Array Bool) (a:Act),HeadInv md ops n listed->
  (∀j g,ops[j]? =some g->j≠i->listed.getD j true=false->(∀e∈g.after,Region.binds md e=true->e.on≠i)->l.apart ops g=true)->
  i∈Region.ready md ops listed->YieldsIn P ops C l v a->
  D2 P md ops C n L f (listed.setIfInBounds i true) (a.put l.dst v)->D2 P md ops C n L (f+1) listed a:=by
 intro f
 induction f with
 |zero=>
  intro listed a inv _ c hy H;have ux:=(mem_ready.1 c).1;refine⟨λh=>(by rw[h]at c;cases c),λj hj=> ?_⟩;have m:j<n:=by
   exact anb
  refine⟨m,?_⟩;by_cases d:j=i
  ·subst d;exact hy.qOp hi H
  ·have:=w _ _ H j (ready_mono hj d);omega
 |succ f x=>
  intro listed a inv t c hy H;have ux:=(mem_ready.1 c).1;refine⟨λh=>(by rw[h]at c;cases c),λj hj=> ?_⟩;have m:j<n:=by
   exact anb
  refine⟨m,?_⟩;by_cases d:j=i
  ·subst d;exact hy.qOp hi H
  ·have p:=(H.2 j (ready_mono hj d)).2;obtain⟨u,g,q,y⟩:=mem_ready.1 hj;have r:∀e∈g.after,Region.binds md e=true->e.on≠i:=λe he z heq=>by
    have p:=y e he z;rw[heq,getD_both ux]at p;cases p
   have A:=qOp_put q (t j g q d u r) (λcs b=>s i l cs b hi) (λcs b=>s j g cs b q) hy p;have B:∀k ok,ops[k]? =some ok->k≠i->(listed.setIfInBounds j true).getD k true=false->
    (∀e∈ok.after,Region.binds md e=true->e.on≠i)->l.apart ops ok=true:=λk ok D E ux F=>by
    refine t k ok D E ?_ F;by_cases G:j=k
    ·subst G;exact u
    ·rw[getD_set_ne true G]at ux;exact ux
   refine qOp_mono (λD G=>x (listed.setIfInBounds j true) D (inv.set hj m) B (ready_mono c (Ne.symm d)) G.1 ?_) A;rw[Array.setIfInBounds_comm _ _ d];exact G.2
theorem D3{g:Nat}{d:Act->Prop}(f:Region.noSelect ops=true)(i:Region.sinkB md ops n=true)(hc:Region.chainB md ops n=true)(m:n<ops.size):
 ∀(l:List Oper) (k:Nat) (listed:Array Bool) (a:Act),(∀j,j<l.length->l[j]? =ops[k+j]?)->k+l.length=n->HeadInv md ops n listed->
 Region.lexHead md ops g l.length k listed=true->wpQuiet P ops C d l a->
 D2 P md ops C n (λp q=>Region.seqB md ops g n p=true/\d q) l.length listed a
 |[],k,listed,a,_,b,_,hB,h=>by
  have:k=n:=by simpa using b
  subst this;exact⟨by simpa [Region.lexHead] using hB,h⟩
 |o::l,k,listed,a,r,b,inv,hB,h=>by
  have c:ops[k]? =some o:=by simpa using (r 0 (by simp)).symm
  simp only[aD,Region.lexHead,ak]at hB;obtain⟨⟨u,w⟩,e⟩:=hB;have s:k<n:=by simp only[aD]at b;omega
  have t:k∈Region.ready md ops listed:=by simpa using u
  have x:qOp P ops C k (wpQuiet P ops C d l) a:=by unfold qOp;simp only[c];exact h
  obtain⟨v,hy,y⟩:=yieldsIn_of_qOp c x;exact IX c (Region.noSelect_spec f) i hc m s (λp q z=>seqB_ready z.1) l.length listed a inv (Region.free_spec c w) t hy
   (D3 f i hc m l (k+1) _ _ (λj z=>by have:=r (j+1) (by simp;omega);simpa [bN,Nat.add_comm 1 j] using this) (by simp only[aD]at b;omega) (inv.set t s) e y)
theorem CE{id:Nat}{a:Act}{l:List Oper}(n:Nat)(hm:P.follows .mixedOrders=true)(hB:Region.lexTailB .any l.toArray n=true)
 (hC:C { w with drawn:=w.drawn+1})
 (h:wpQuiet P l.toArray C (λc=>∀w',C w'->wpList P l.toArray Q (l.drop n) c w') (l.take n) a):(Code.region id l.toArray true).wp P Q a w:=by
 simp only[Region.lexTailB,ak,decide_eq_true_eq]at hB;obtain⟨⟨⟨⟨o,f⟩,p⟩,hc⟩,q⟩:=hB;have r:n<l.length:=by simpa using f
 have b:(l.take n).length=n:=by simp;omega
 have i:(l.drop n).length=l.toArray.size-n:=by simp
 have d:HeadInv .any l.toArray n (Array.replicate l.toArray.size false):=
  ⟨by simp,λj m _ e=>(by rw[getD_replicate_false]at e;cases e),λt _ k=>getD_in (by simpa using k) (getD_replicate_false _ _)⟩
 have H:=D3 (md:=.any) (g:=l.toArray.size-n) o p hc f (l.take n) 0 _ a (λj k=>by
  have e:j<n:=by rw[b]at k;exact k
  simp[e]) (by simpa using b) d (by rw[b];exact q) h
 refine wp_region_any hm ?_;have:=uM (Q':=Q) (g:=l.toArray.size-n) (λlisted c w' e m=>by
  have:=wpAny_of_seq (md:=.any) (Q':=Q) (l.drop n) n listed c w' (λj=>by simp[List.getElem?_drop]) (by rw[i];exact m.1) (m.2 w' e);rwa [i]at this) _ _ _ _ hC H
 rw[b,show n+(l.toArray.size-n)=l.toArray.size by omega]at this;exact this
theorem gw{id:Nat}{a:Act}{l:List Oper}(n:Nat)(hm:P.follows .mixedOrders=true)(hB:Region.lexTailB .any l.toArray n=true)
 (h:wpQuiet P l.toArray (λw'=>∃p:Regrown,w'=grow (redrawn w p.d) p.os) (λb=>∀w',Below w.heap.size w w'->wpList P l.toArray Q (l.drop n) b w') (l.take n) a):(Code.region id l.toArray true).wp P Q a w:=by
 refine CE (C:=λw'=>∃p:Regrown,w'=grow (redrawn w p.d) p.os) n hm hB ⟨⟨w.drawn+1,#[]⟩,by rw[grow_empty];rfl⟩ ?_;have key:∀(c:List Oper) (a:Act),wpQuiet P l.toArray (λw'=>∃p:Regrown,w'=grow (redrawn w p.d) p.os) (λb=>∀w',Below w.heap.size w w'->wpList P l.toArray Q (l.drop n) b w') c a->
  wpQuiet P l.toArray (λw'=>∃p:Regrown,w'=grow (redrawn w p.d) p.os) (λb=>∀w',(∃p:Regrown,w'=grow (redrawn w p.d) p.os)->wpList P l.toArray Q (l.drop n) b w') c a:=by
  intro c
  induction c with
  |nil=>intro a h w' ⟨p,hp⟩;exact h w' (hp ▸ below_regrown w p.d p.os)
  |cons o c d=>
   intro a h;unfold wpQuiet at h |-
   split
   ·rename_i hw;rw[aq hw]at h;exact Oper.quiet_mono (λa=>d a) h
   ·rename_i hw;rw[ah hw]at h;exact d _ h
 exact key _ _ h
end
section
variable {P:Program} {ops:Array Oper} {md:Region.Mode} {n l:Nat}
theorem IY{row:String}{args:Array Value}{R:Value->World->Prop}(h:Rows P row args w R):RowsIn (Fence.wide.inRound l) n P row args w R:=
 λc cs _=>let⟨v,w',r,s⟩:=h c cs;⟨v,w',r,stepsIn_wide.2 s⟩
theorem NC{o:Oper}{a:Act}{K i:Act->World->Prop}(j:∀c,o.op≠.defer c)(k:¬LetsOut Q)(b:∀a w,K a w->i a w)(h:o.wp P a w K Q):
 o.wpIn (Fence.wide.inRound l) n P a w i Q:=by
 refine⟨λ_ _=>trivial,?_⟩;rw[Oper.semAt_eq _ _ _ j];unfold Oper.wp at h;generalize (execOp a.eval o).run P w=r at*;cases r with
 |ok x w'=>
  cases x<;>simp only[Oper.upon]at h<;>simp only[Oper.uponIn]
  case value v=>exact b _ _ h
  case skip=>exact b _ _ h
  case defer d=>exact b _ _ h
  case enter f args=>
   refine⟨(λg=>by cases g),CallsIn.inRound l (callsIn_wide.2 (h.mono λe m he=> ?_))⟩;cases e with
   |returned v=>exact b _ _ he
   |panicked chain=>exact he
   |outgrown=>exact ay he k
  case row row args=>exact⟨(λg=>by cases g),IY (h.mono λ_ _ he=>b _ _ he)⟩
 |halt x w'=>cases x<;>simp only[Oper.upon]at h<;>simp only[Oper.uponIn];exact h
theorem ND(g:∀(j:Nat) (o:Oper),ops[j]? =some o->∀c,o.op≠.defer c)(e:¬LetsOut Q){K f:Act->World->Prop}(d:∀a w,K a w->f a w){a:Act}
 (h:wpOp P ops Q i K a w):wpOpIn (Fence.wide.inRound l) n P ops Q i f a w:=by
 unfold wpOp at h;unfold wpOpIn
 split
 ·rename_i b;simp only[b]at h;exact d _ _ h
 ·rename_i o b;simp only[b]at h
  split
  ·rename_i hw;rw[aq hw]at h;rcases h with h|h
   ·exact NC (g _ _ b) e d h
   ·exact ay h.2 e
  ·rename_i hw;rw[ah hw]at h;exact⟨λ_ _=>trivial,d _ _ h⟩
theorem BM(b:∀(j:Nat) (o:Oper),ops[j]? =some o->∀c,o.op≠.defer c)(d:¬LetsOut Q):∀(f:Nat) (listed:Array Bool) (a:Act) (w:World),
 wpAny P md ops Q f listed a w->wpAnyIn (Fence.wide.inRound l) n P md ops Q f listed a w
 |0,_,_,_,h=>h
 |f+1,_,_,_,h=>⟨h.1,λi hi=>ND b d (λe w'=>BM b d f _ e w') (h.2 i hi)⟩
def D4(ops:Array Oper):Bool:=ops.all λo=>match o.op with| .defer _=>false|_=>true
theorem F5(h:D4 ops=true):∀(j:Nat) (o:Oper),ops[j]? =some o->∀c,o.op≠.defer c:=λj o a c hc=>by
 unfold D4 at h;have:=Array.all_eq_true_iff_forall_mem.1 h o (Array.mem_of_getElem? a);rw[hc]at this;cases this
theorem kq{id:Nat}{a:Act}{b:List Oper}(hm:P.follows .mixedOrders=true)(hB:(Region.lexB .any b.toArray&&D4 b.toArray)=true)(e:¬LetsOut Q)
 (h:wpQuiet P b.toArray (λw'=>∃p:Regrown,w'=grow (redrawn w p.d) p.os) (λc=>∀w',Below w.heap.size w w'->Q .normal c w') b a):(Code.region id b.toArray true).wpIn (Fence.wide.inRound l) n P Q a w:=by
 simp only[ak]at hB;have d:=hB.1;simp only[Region.lexB,ak]at d;refine wpIn_region_any hm (BM (F5 hB.2) e _ _ _ _ ?_);refine wpAny_of_quiet (C:=λw'=>∃p:Regrown,w'=grow (redrawn w p.d) p.os) (Q:=λc=>∀w',Below w.heap.size w w'->Q .normal c w') (λ_ w' ⟨p,hp⟩ h=>h w' (hp ▸ below_regrown w p.d p.os)) _ _ _ _ ⟨⟨w.drawn+1,#[]⟩,by rw[grow_empty];rfl⟩ ?_;have:=wpAnyQ_lex (C:=λw'=>∃p:Regrown,w'=grow (redrawn w p.d) p.os) (md:=.any) d.1 b 0 (Array.replicate b.toArray.size false) a (by simp) (by simpa using d.2) h;simpa using this
end
section
variable {P:Program} {ops:Array Oper} {Q:Exit->Act->World->Prop} {md:Region.Mode} {S:World->Prop}
theorem qA(i:Nat)(b:Oper){f:Nat}{l d:Array Bool}{a e:Act}(g:S w)(h:wpAnyH P md ops Q S f d e w)
 (hi:ops[i]? =some b:=by rfl) (j:Region.noSelect ops=true:=by kernel_rfl) (k:Region.free md ops l i=true:=by kernel_rfl) (m:(Region.ready md ops l).contains i=true:=by kernel_rfl)
 (n:∀c a w,Q (.panic c) (a.put b.dst v) w->Q (.panic c) a w:=by exact λ_ _ _ h=>h)
 (hw:Region.wanted b (yielded ops a.tmps)=true:=by kernel_rfl)
 (hy:∀w,S w->(execOp a.eval b).run P w=.ok (.value v) w:=by
  intro w hSw
  try dsimp only at hSw
  try replace hSw:=SL.o w hSw
  repeat (have hS1:=And.left hSw;replace hSw:=And.right hSw)
  go_simp
  try with_reducible rfl)
 (o:l.setIfInBounds i true=d:=by first|(simp only[bG,bU,bV];first|done|rfl)|rfl)
 (p:a.put b.dst v=e:=by first|(simp only[Act.put,bG,bU,bV];first|done|rfl)|rfl):wpAnyH P md ops Q S (f+1) l a w:=by
 subst o p;exact wpAnyH_take hi j k m n (Or.inl ⟨hw,hy⟩) g h
theorem qR(i:Nat)(o:Oper){f:Nat}{l c:Array Bool}{a:Act}
 (h:∀b:Act->World->Prop,Shut (∀a w,S w->(S w->wpAnyH P md ops Q S f c a w)->b a w)->if Region.wanted o (yielded ops a.tmps)=true then Oper.wp P o a w b Q else b (a.put o.dst undef) w)
 (hi:ops[i]? =some o:=by rfl) (b:Region.ready md ops l=[i]:=by kernel_rfl)
 (d:l.setIfInBounds i true=c:=by first|(simp only[bG,bU,bV];first|done|rfl)|rfl):wpAnyH P md ops Q S (f+1) l a w:=by
 subst d;exact wpAnyH_ready b (by simp) (AllReadyH.cons hi h AllReadyH.nil)
theorem qK{R b:Act->World->Prop}{a c:Act}(d:Shut (∀a w,S w->(S w->R a w)->b a w))(f:S w)(h:S w->R c w)
 (e:a=c:=by first|(simp only[Act.put,bG,bU,bV];first|done|rfl)|rfl):b a w:=by
 subst e;exact d.out _ _ f h
end
end
section
open Go Go.RowKit
attribute [local go_sem] aT cW df
def cN(xs:List Int)(i:Nat):Int:=xs[i]?.getD 0
def mH(xs:List Int)(x:Int):Bool:=xs.contains x
def Ints(w:World)(B:Nat)(v:Value)(xs:List Int):Prop:=Row w B 1 v xs.length (λi=>.int .i64 (cN xs i))
theorem Ints.below{xs:List Int}(h:Ints w B v xs){B':Nat}(a:Below B' w w')(hB:B<=B'):Ints w' B v xs:=Row.below h a hB
theorem Ints.mono{xs:List Int}(h:Ints w B v xs){B':Nat}(hB:B<=B'):Ints w B' v xs:=Row.mono h hB
theorem Row.congr{sz:Nat}{c d:Nat->Value}(h:Row w B sz v n c)(e:∀i,i<n*sz->c i=d i):Row w B sz v n d:=by
 obtain⟨f,a,cap,g,hc,hm,j⟩:=h;refine⟨f,a,cap,g,hc,hm,λk=> ?_⟩;obtain⟨b,off,l,m,o⟩:=j k;exact⟨b,off,l,m,λi hi=>by rw[<-e i hi];exact o i hi⟩
theorem RB{xs:List Int}(h:i<k):cN (xs.take k) i=cN xs i:=by unfold cN;rw[List.getElem?_take,aq h]
theorem Ints.take{a:Option Addr}{cap:Nat}{xs:List Int}(h:Ints w B (.slice a n cap) xs)(b:k<=xs.length):Ints w B (.slice a k cap) (xs.take k):=by
 have c:n=xs.length:=by obtain⟨_,f,g,d,_⟩:=h;cases d;rfl
 subst c;have e:(xs.take k).length=k:=by simp;omega
 unfold Ints;rw[e];exact(Row.take h b).congr λi hi=>by rw[RB (by omega)]
theorem Ints.slice{xs:List Int}(h:Ints w B v xs):∃a c,v=.slice a xs.length c:=by obtain⟨_,a,cap,rfl,_⟩:=h;exact⟨_,_,rfl⟩
theorem x9(v:Value)(xs:List Int)(x:Int)(w:World)(d:Ints w B v xs):
 Calls Tryz.prog 191 #[v,.int .i64 x] w λe w'=>e=.returned (.int .i64 (idxOf (λk=>cN xs k==x) xs.length))/\w'=w:=by
 obtain⟨_,a,cap,rfl,hc,_,d⟩:=d
 go_enter Tryz.func191,Tryz.ntmps191
 go_wp2
 go_loop [8] (λi=>∃k:Nat,k<=xs.length/\i=.int .i64 k/\(∀j,j<k->(cN xs j==x)=false))
  (λi=>xs.length-(intOf i).toNat)
 case atStart=>exact⟨0,aw _,rfl,λj g=>ay g (ax _)⟩
 case round=>
  obtain⟨k,n,rfl,f⟩:=hrel;by_cases m:k<xs.length
  ·obtain⟨b,off,rfl,o,l⟩:=d (by omega);have c0:w.cell? ⟨b,off+k,none⟩=some (.int .i64 (cN xs k)):=l k (by omega);have c:=hI f;clear l d f;cases hp:(cN xs k==x)
   ·go_wp2
    go_round
    case rel=>exact⟨k+1,by omega,by go_num,λj g=>if h:j=k then h ▸ hp else c.o j (by omega)⟩
    case measure=>simp[intOf];omega
   ·go_wp2;go_ret;exact⟨by rw[xZ m c.o hp];rfl,rfl⟩
  ·go_wp2;go_ret;have:k=xs.length:=by omega
   subst this;exact⟨by rw[D0 f];rfl,rfl⟩
theorem F6(xs:List Int)(x:Int):(List.range xs.length).any (λk=>cN xs k==x)=mH xs x:=by
 unfold mH;rw[aP,List.any_eq_true,bh,bC];constructor
 ·rintro⟨k,a,h⟩;have b:=bq.1 a;exact⟨k,b,by simpa [cN,b] using h⟩
 ·rintro⟨k,a,h⟩;exact⟨k,bq.2 a,by simp[cN,a,h]⟩
theorem xj(v:Value)(xs:List Int)(x:Int)(w:World)(a:Ints w B v xs):
 Calls Tryz.prog 200 #[v,.int .i64 x] w λe w'=>e=.returned (.bool (mH xs x))/\w'=w:=by
 go_enter Tryz.func200,Tryz.ntmps200
 go_wp2_with (go_at_call 191;refine(x9 _ _ _ _ a).mono ?_;rintro e w' ⟨rfl,rfl⟩)
 go_ret;exact⟨by rw[<-F6,<-Rz];rfl,rfl⟩
theorem h_{a:World}(hB:B<=b):∀(vs:List Value) (o:Nat) (w:World),Below B a w->Below B a (w.setCells b o vs)
 |[],_,_,h=>h
 |v::vs,o,_,h=>h_ hB vs (o+1) _ (h.setCell (p:=⟨b,o,none⟩) hB v)
theorem bQ(h:w.heap[b]? =some o)(a:Below B w w')(hB:b<B):w'.heap[b]? =some o:=(a.block b hB).trans h
theorem cY(a:Below w.heap.size w w'){q:Nat}(h:w.heap[q]? =some o):w'.heap[q]? =some o:=bQ h a (gE h).1
theorem cZ{x0:Value}(h:w.heap[b]? =some (.cells (x0::r).toArray T (0,0))):w.cell? ⟨b,0,none⟩=some x0:=by rw[cell_of_row _ _ _ _ _ _ h];rfl
theorem eY{x0 x1:Value}(h:w.heap[b]? =some (.cells (x0::x1::r).toArray T (0,0))):w.cell? ⟨b,1,none⟩=some x1:=by rw[cell_of_row _ _ _ _ _ _ h];rfl
theorem fu{x0 x1 a:Value}(h:w.heap[b]? =some (.cells (x0::x1::a::r).toArray T (0,0))):w.cell? ⟨b,2,none⟩=some a:=by rw[cell_of_row _ _ _ _ _ _ h];rfl
theorem xk{x0 x1 c a:Value}(h:w.heap[b]? =some (.cells (x0::x1::c::a::r).toArray T (0,0))):w.cell? ⟨b,3,none⟩=some a:=by rw[cell_of_row _ _ _ _ _ _ h];rfl
theorem Za{x0 x1 c d a:Value}(h:w.heap[b]? =some (.cells (x0::x1::c::d::a::r).toArray T (0,0))):w.cell? ⟨b,4,none⟩=some a:=by rw[cell_of_row _ _ _ _ _ _ h];rfl
theorem cr5{x0 x1 c d e a:Value}(h:w.heap[b]? =some (.cells (x0::x1::c::d::e::a::r).toArray T (0,0))):w.cell? ⟨b,5,none⟩=some a:=by rw[cell_of_row _ _ _ _ _ _ h];rfl
theorem cr8{x0 x1 c d e f g i a:Value}(h:w.heap[b]? =some (.cells (x0::x1::c::d::e::f::g::i::a::r).toArray T (0,0))):w.cell? ⟨b,8,none⟩=some a:=by rw[cell_of_row _ _ _ _ _ _ h];rfl
theorem uN{z:Array Value}(h:w.heap[b]? =some (.cells z t (0,0)))(a:z.size=n):w.there b 0 n:=λj c=>by
 constructor
 ·rw[a8,cell_of_row w b j z t (0,0) h];simp[a,c]
 ·simp[World.frozen?,h]
theorem eS{base:Nat}{sz:Nat}{xs:List Value}(h:w.ownsRow base e sz v n xs)(a:n<=140737488355328){c:Nat->Value}(hc:∀i,i<n*sz->xs[i]? =some (c i)):
 Row w w.heap.size sz v n c:=by
 obtain⟨_,h|⟨g,cap,cur,rfl,k,b,d,f,l,j⟩⟩:=h
 ·obtain⟨rfl,rfl⟩:=h;exact⟨a,none,0,rfl,lR,by unfold maxLen;omega,λh=>ay h (dy _)⟩
 ·refine⟨a,_,cap,rfl,d,f,λ_=>⟨g,0,rfl,(gE b).1,λi hi=> ?_⟩⟩;rw[a8,cell_of_row w g i cur e (0,0) b,<-hc i hi,<-j,List.getElem?_take,aq hi];simp
section
variable {F:Fence} {n:Nat} {P:Program} {fn:Func} {R:Ending->World->Prop}
theorem jF{a:Act}(b:(results fn a.tmps).run P w=.ok v w)(c:a.defers=[])(d:R (.returned v) w):bodyPostM F n P fn R .ret a w:=by
 show LeavesInM F n P fn a.tmps R a.defers .returning w;rw[c];exact⟨v,b,d⟩
theorem iZ{a:Act}(D:Nat)(b:w.heap[D]? =some (.deferred (some [])))(c:(results fn a.tmps).run P (w.putObj D (.deferred none))=.ok v (w.putObj D (.deferred none)))
 (d:a.defers=[{ target:=.collected D,args:= #[]}]) (e:R (.returned v) (w.putObj D (.deferred none))):bodyPostM F n P fn R .ret a w:=by
 show LeavesInM F n P fn a.tmps R a.defers .returning w;rw[d];exact⟨by simp,.inl ⟨_,_,rfl,run_takeDeferred b,v,c,e⟩⟩
end
theorem gZ{D o:Nat}{ob:Obj}(h:b≠D):(w.putObj D ob).cell? ⟨b,o,none⟩=w.cell? ⟨b,o,none⟩:=by simp only[World.cell?,aA h]
theorem dI{a:World}(h:Below B a w){D:Nat}(c:B<=D)(o:Obj):Below B a (w.putObj D o):=
 ⟨h.os,h.tape,h.output,by simpa using h.size,λk b=>(aA (by omega)).trans (h.block k b)⟩
section
variable {P:Program} {w:World} {ops:Array Oper} {rest:List Oper} {o:Oper} {a:Act} {Q:Exit->Act->World->Prop}
end
theorem zG{A:Nat}{b:Nat×Nat}:∀(vs:List Value) (o:Nat) (w:World) (z:Array Value),w.heap[A]? =some (.cells z t b)->o+vs.length<=z.size->
 ∃a:Array Value,(w.setCells A o vs).heap[A]? =some (.cells a t b)/\a.size=z.size/\∀i,a[i]? =if o<=i/\i<o+vs.length then vs[i-o]? else z[i]?
 |[],o,w,z,h,_=>⟨z,h,rfl,λi=>by rw[ah (by simp only[List.length_nil];omega)]⟩
 |v::vs,o,w,z,h,d=>by
  simp only[aD]at d;have e:(w.setCell ⟨A,o,none⟩ v).heap[A]? =some (.cells (z.setIfInBounds o v) t b):=by
   simp only[World.setCell,Array.getElem?_modify,if_true,h,Option.map_some]
   rfl
  obtain⟨a,f,g,j⟩:=zG vs (o+1) _ _ e (by simp;omega);refine⟨a,f,by simpa using g,λi=> ?_⟩;rw[j,aD];by_cases hi:i=o
  ·subst hi;rw[ah (by omega),aq (by omega),Array.getElem?_setIfInBounds,aq rfl,aq (by omega)];simp
  ·by_cases c:o+1<=i/\i<o+1+vs.length
   ·rw[aq c,aq (by omega),show i-o=(i-(o+1))+1 by omega];rfl
   ·rw[ah c,ah (by omega),Array.getElem?_setIfInBounds,ah (λh=>hi h.symm)]
theorem F7{A:Nat}{a:Nat×Nat}{vs:List Value}{z:Array Value}(h:w.heap[A]? =some (.cells z t a))(e:z.size=vs.length):(w.setCells A 0 vs).heap[A]? =some (.cells vs.toArray t a):=by
 obtain⟨b,c,f,d⟩:=zG vs 0 w z h (by omega);rw[c];have:b=vs.toArray:=by
  apply Array.ext_getElem?;intro i;rw[d];by_cases hi:i<vs.length
  ·rw[aq (by omega)];simp
  ·rw[ah (by omega),Array.getElem?_eq_none (by omega),Array.getElem?_eq_none (by simpa using hi)]
 rw[this]
def eT(x:Int):Value:=.int .i64 x
def cE(xs:List Int):List Value:=xs.map eT
theorem dJ(xs:List Int):(cE xs).length=xs.length:=by simp[cE]
theorem eH(xs:List Int)(i:Nat)(h:i<xs.length):(cE xs)[i]? =some (.int .i64 (cN xs i)):=by simp[cE,eT,cN,h]
theorem lk(xs:List Int):∀u∈cE xs,u.oneCell'=true:=by intro u hu;obtain⟨x,_,rfl⟩:=aN.1 hu;rfl
theorem eZ(xs a:List Int):cE xs++cE a=cE (xs++a):=by simp[cE]
theorem UU{base:Nat}{size:Nat}{xs:List Value}(h:w.ownsRow base e size v n xs)(b:a<=base):w.ownsRow a e size v n xs:=by
 refine⟨h.1,?_⟩;rcases h.2 with c|⟨g,cap,cur,d,f,r⟩
 ·exact .inl c
 ·exact .inr ⟨g,cap,cur,d,ai b f,r⟩
structure CK (w w':World):Prop where
 same:∀(k:Nat) (c:Array Value) (t:TypeId) (f:Nat×Nat),w.heap[k]? =some (Obj.cells c t f)->w'.heap[k]? =some (Obj.cells c t f)
 size:w.heap.size<=w'.heap.size
theorem CK.below(h:Below w.heap.size w w'):CK w w':=⟨λk _ _ _ e=>(h.block k (gE e).1).trans e,h.size⟩
theorem gC{base:Nat}{sz:Nat}{xs:List Value}(h:w.ownsRow base e sz v n xs)(hc:CK w w'):w'.ownsRow base e sz v n xs:=by
 refine⟨h.1,?_⟩;rcases h.2 with a|⟨g,cap,cur,rfl,b,c,rest⟩
 ·exact .inl a
 ·exact .inr ⟨g,cap,cur,rfl,b,hc.same _ _ _ _ c,rest⟩
theorem lQ{base:Nat}{size:Nat}{xs:List Value}{c:Array Value}(h:w.ownsRow base e size v n xs)(a:w.heap[b]? =some (.cells c t (0,0)))(f:t≠e):∀g,v.ownBlock=some g->g≠b:=by
 intro g d i;subst i;rcases h.2 with⟨rfl,_⟩|⟨g',cap,cur,rfl,_,j,_⟩
 ·simp[Value.ownBlock]at d
 ·simp[Value.ownBlock]at d;subst d;rw[j]at a;simp only[aL,Obj.cells.injEq]at a;exact f a.2.1.symm
theorem uO{e:Exit}{a:Act}{W:World}(R:World->Prop)(b:R W)(h:∀W',R W'->Q e a W'):Q e a W:=h W b
theorem Below.ia{a:World}(h:Below B a w):Below B a w.drew:=h.trans ⟨rfl,rfl,rfl,lR,λ_ _=>rfl⟩
section
variable {F:Fence} {n:Nat} {P:Program} {fn:Func} {R:Ending->World->Prop}
end
def alH(T:TypeId):Obj->Prop
 | .cells _ t _=>t≠T
 |_=>True
theorem nD{base:Nat}{sz:Nat}{xs:List Value}(h:w.ownsRow base e sz v n xs)(hc:∀(k:Nat) (c:Array Value),w.heap[k]? =some (Obj.cells c e (0,0))->w'.heap[k]? =some (Obj.cells c e (0,0))):w'.ownsRow base e sz v n xs:=by
 refine⟨h.1,?_⟩;rcases h.2 with a|⟨g,cap,cur,rfl,b,d,rest⟩
 ·exact .inl a
 ·exact .inr ⟨g,cap,cur,rfl,b,hc _ _ d,rest⟩
theorem ZQ(a b:Nat):(((a:Nat):Int) != ((b:Nat):Int))= !decide (a=b):=by
 by_cases h:a=b
 ·subst h;simp
 ·have:¬((a:Int)=(b:Int)):=by omega
  simp[h,this]
theorem GN(w:World)(a b c d e:Obj):(((((w.alloc a).alloc b).alloc c).alloc d).alloc e).heap[w.heap.size]? =some a/\(((((w.alloc a).alloc b).alloc c).alloc d).alloc e).heap[w.heap.size+1]? =some b/\
 (((((w.alloc a).alloc b).alloc c).alloc d).alloc e).heap[w.heap.size+2]? =some c/\(((((w.alloc a).alloc b).alloc c).alloc d).alloc e).heap[w.heap.size+3]? =some d/\(((((w.alloc a).alloc b).alloc c).alloc d).alloc e).heap[w.heap.size+4]? =some e:=
 ⟨fH (mO _ _ _ _ _).1,fH (mO _ _ _ _ _).2.1,fH (mO _ _ _ _ _).2.2.1,fH (mO _ _ _ _ _).2.2.2,sG (by simp)⟩
theorem Below.ahg(w:World)(a b c d e:Obj):Below w.heap.size w (((((w.alloc a).alloc b).alloc c).alloc d).alloc e):=(Below.ZO w a b c d).alloc (by simp;omega) _
theorem cz{o:Nat}{c:Array Value}(h:w.heap[b]? =some (.cells c t (0,0))):(w.setCell ⟨b,o,none⟩ v).heap[b]? =some (.cells (c.setIfInBounds o v) t (0,0)):=by
 simp only[World.setCell,Array.getElem?_modify,if_true,h,Option.map_some];rfl
theorem kL{md:Region.Mode}{ops:Array Oper}{S:World->Prop}{l:Array Bool}{a:Act}{W:World}(R:World->Prop)(b:R W)(c:S W)(h:∀W',R W'->S W'->wpAnyH P md ops Q S n l a W'):wpAnyH P md ops Q S n l a W:=h W b c
theorem Ints.nil(w:World)(B:Nat):Ints w B (.slice none 0 0) []:=⟨by decide,none,0,rfl,lR,by decide,λh=>ay h (dy _)⟩
theorem mP{xs:List Value}(h:w.heap[b]? =some (.cells xs.toArray t (0,0))):w.rangeAt b 0 xs:=λj v a=>by
 rw[a8,cell_of_row _ _ _ _ _ _ h,aF];exact a
def rO(a b:List Int):Bool:=decide (a=b)
theorem RC{a b:List Int}(h:a.length≠b.length):rO a b=false:=by unfold rO;exact aB λe=>h (by rw[e])
theorem UW{a b:List Int}(h:cN a k≠cN b k):rO a b=false:=by unfold rO;exact aB λe=>h (by rw[e])
theorem RD{a b:List Int}(d:a.length=b.length)(h:∀i,i<a.length->cN a i=cN b i):rO a b=true:=by
 unfold rO;apply aI;apply List.ext_getElem d;intro i c e;have:=h i c;simpa [cN,c,e] using this
theorem ZS{xs:List Int}(hi:i<=xs.length)(h:∀j,j<i->cN xs j≠x):mH (xs.take i) x=false:=by
 unfold mH;rw[b5];intro hc;rw[bh]at hc;obtain⟨j,a,b⟩:=bC.1 hc;have c:j<i:=by simp at a;omega
 apply h j c;rw[<-b];simp[cN,show j<xs.length by omega]
theorem UX{xs:List Int}(hi:i<=xs.length)(a:j<i)(h:cN xs j=x):mH (xs.take i) x=true:=by
 unfold mH;rw[bh];refine bC.2 ⟨j,by simp;omega,?_⟩;rw[<-h];simp[cN,show j<xs.length by omega]
theorem KC{xs:List Int}(h:∀j,j<xs.length->cN xs j≠x):mH xs x=false:=by
 have:=ZS (Nat.le_refl xs.length) h;rwa [bE]at this
theorem ZT{xs:List Int}(a:j<xs.length)(h:cN xs j=x):mH xs x=true:=by
 have:=UX (Nat.le_refl xs.length) a h;rwa [bE]at this
section
variable {P:Program}
theorem KD{base:Nat}{sz g m cap:Nat}{xs news:List Value}(h:w.ownsRow base e sz (.slice (some ⟨g,0,none⟩) (n+m) cap) (n+m) (xs++news))(a:xs.length=n*sz):w.ownsRow base e sz (.slice (some ⟨g,0,none⟩) n cap) n xs:=by
 rcases h.2 with⟨h',_⟩|⟨g',k,cur,h',c,d,l,f,i,j⟩
 ·simp at h'
 ·simp only[Value.slice.injEq,aL,Addr.mk.injEq,and_true,true_and]at h';obtain⟨rfl,rfl⟩:=h';refine⟨a,.inr ⟨g,cap,cur,rfl,c,d,by omega,f,i,?_⟩⟩;have b:(cur.toList.take ((n+m)*sz)).take (n*sz)=(xs++news).take (n*sz):=by rw[j]
  rw[List.take_take,Nat.min_eq_left (Nat.mul_le_mul_right _ (by omega))]at b;rw[b,<-a,List.take_left]
theorem IZ(base:Nat)(t ty e:TypeId)(i:TypeInfo)(z:Value)(size bytes:Nat)(l:P.underlying t=some (.slice e))(hi:P.info? e=some i)(r:i.zero=some z)
 (s:i.size=size) (x:i.bytes=bytes) (v:Value) (n:Nat) (xs:List Value) (b:w.ownsRow base e size v n xs)
 (d:Addr) (m c:Nat) (news:List Value) (f:news.length=m*size) (o:∀j u,news[j]? =some u->w.cell? (d.add j)=some u) (y:∀u∈news,u.oneCell'=true)
 (k:n+m<=maxLen) (A:(n+m)*bytes<=140737488355328) {v':Value} (p:(Builtin.append_ #[t,t] ty #[v,.slice (some d) m c]).run P w=.ok v' w') (B:w'.ownsRow base e size v' (n+m) (xs++news)):
 w'.ownsRow base e size v n xs:=by
 subst s x;rcases b.2 with⟨rfl,rfl⟩|⟨g,cap,cur,rfl,C,D,E,I,F,G⟩
 ·have a:xs=[]:=List.eq_nil_of_length_eq_zero (by simpa using b.1);subst a;exact aZ _ _ _ _
 ·by_cases q:n+m<=cap
  ·have H:n*i.size+news.length<=cur.size:=by rw[f,F,<-Nat.add_mul];exact Nat.mul_le_mul_right _ q
   have a:=run_append_room (P:=P) w t ty e i l hi g n cap cur D d m c news f o y q H;rw[p]at a;simp only[Result.ok.injEq]at a;obtain⟨rfl,rfl⟩:=a;exact KD B b.1
  ·have holds:∀j u,xs[j]? =some u->w.cell? ((⟨g,0,none⟩:Addr).add j)=some u:=b.cells (g:=g) rfl;have a:=run_append_grow (P:=P) w t ty e i z l hi r ⟨g,0,none⟩ n cap xs b.1 holds d m c news f o (by omega) (by unfold maxLen at k;omega) (growslice_fits (by omega) A);rw[p]at a;simp only[Result.ok.injEq]at a;obtain⟨rfl,rfl⟩:=a;exact gC b (CK.below ((Below.ia bR).alloc lR _))
theorem CG(w:World)(base:Nat)(t ty e:TypeId)(i:TypeInfo)(size:Nat)(b:P.underlying t=some (.slice e))(hi:P.info? e=some i)(v:Value)(n:Nat)(xs:List Value)(d:w.ownsRow base e size v n xs)(c:Nat):
 (Builtin.append_ #[t,t] ty #[v,.slice none 0 c]).run P w=.ok v w:=by
 rcases d.2 with⟨rfl,rfl⟩|⟨g,cap,cur,rfl,f,k,a,l,m,j⟩
 ·simp[Builtin.append_,run_underlying b,sizeOf,typeInfo,hi,Builtin.lenOf,Builtin.firstCells]
 ·simp[Builtin.append_,run_underlying b,sizeOf,typeInfo,hi,Builtin.lenOf,Builtin.firstCells,a,storeCells]
theorem D5(w:World)(base:Nat)(t ty e:TypeId)(i:TypeInfo)(z:Value)(size bytes:Nat)(k:P.underlying t=some (.slice e))(hi:P.info? e=some i)(q:i.zero=some z)
 (r:i.size=size) (s:i.bytes=bytes) (l:z.cells.size=size) (F:0<size) (v:Value) (n:Nat) (xs:List Value) (d:w.ownsRow base e size v n xs)
 (x:Value) (m:Nat) (c:Nat->Value) (B:Nat) (G:Row w B size x m c) (news:List Value) (g:news.length=m*size) (H:∀j,j<m*size->news[j]? =some (c j)) (y:∀u∈news,u.oneCell'=true)
 (f:n+m<=maxLen) (A:(n+m)*bytes<=140737488355328) (I:base<=w.heap.size):
 ∃v' w',(Builtin.append_ #[t,t] ty #[v,x]).run P w=.ok v' w'/\w'.ownsRow base e size v' (n+m) (xs++news)/\w.grownBy w' v.ownBlock/\w'.ownsRow base e size v n xs:=by
 obtain⟨_,a,cap,rfl,_,_,C⟩:=G;cases a with
 |none=>
  have hm:m=0:=by
   rcases Nat.eq_zero_or_pos m with h|h
   ·exact h
   ·obtain⟨b,off,h,_⟩:=C h;cases h
  subst hm;have p:news=[]:=List.eq_nil_of_length_eq_zero (by simpa using g);subst p;exact⟨v,w,CG w base t ty e i size k hi v n xs d cap,by simpa using d,⟨rfl,rfl,rfl,lR,λ_ _ _=>rfl⟩,d⟩
 |some o=>
  have D:∀j u,news[j]? =some u->w.cell? (o.add j)=some u:=by
   intro j u E;have p:j<m*size:=by rw[<-g];exact(cL.1 E).1
   have hm:0<m:=by
    rcases Nat.eq_zero_or_pos m with h|h
    ·rw[h,Nat.zero_mul]at p;omega
    ·exact h
   obtain⟨b,off,h,_,hc⟩:=C hm;cases h;rw[Addr.add_lit,hc j p,<-H j p,E]
  obtain⟨v',w',p,E,J,_⟩:=run_append_own (P:=P) w base t ty e i z size bytes k hi q r s l F v n xs d o m cap news g D y f A I;exact⟨v',w',p,E,J,IZ base t ty e i z size bytes k hi q r s v n xs d o m cap news g D y f A p E⟩
theorem eU{o:Oper}{a:Act}{K:Act->World->Prop}(s x:Operand)(t:TypeId)
 (g:o.op=.call { callee:=.builtin .append,args:= #[s,x],argTypes:= #[t,t]})
 (base:Nat) (e:TypeId) (i:TypeInfo) (z:Value) (size bytes:Nat) (k:P.underlying t=some (.slice e)) (hi:P.info? e=some i) (l:i.zero=some z)
 (p:i.size=size) (q:i.bytes=bytes) (b:z.cells.size=size) (r:0<size) (v:Value) (n:Nat) (xs:List Value) (y:a.eval s=v) (A:w.ownsRow base e size v n xs)
 (d:Value) (m:Nat) (c:Nat->Value) (B:Nat) (C:a.eval x=d) (D:Row w B size d m c) (news:List Value) (E:news.length=m*size) (F:∀j,j<m*size->news[j]? =some (c j)) (G:∀u∈news,u.oneCell'=true)
 (f:n+m<=maxLen) (H:(n+m)*bytes<=140737488355328) (I:base<=w.heap.size)
 (h:∀v' w',w'.ownsRow base e size v' (n+m) (xs++news)->w.grownBy w' v.ownBlock->w'.ownsRow base e size v n xs->K (a.put o.dst v') w'):o.wp P a w K Q:=by
 obtain⟨v',w',J,L,M,N⟩:=D5 (P:=P) w base t o.type e i z size bytes k hi l p q b r v n xs A d m c B D news E F G f H I;unfold Oper.wp execOp;simp only[g,resolve,invoke,builtin,bB,Sem.run_pure,bg,List.map_toArray,bz,List.map_nil,y,C,J];exact h v' w' L M N
theorem qT{ops:Array Oper}{rest:List Oper}{o:Oper}{a:Act}(g:o.guard=none)(s x:Operand)(t:TypeId)
 (k:o.op=.call { callee:=.builtin .append,args:= #[s,x],argTypes:= #[t,t]})
 (base:Nat) (e:TypeId) (i:TypeInfo) (z:Value) (size bytes:Nat) (l:P.underlying t=some (.slice e)) (hi:P.info? e=some i) (p:i.zero=some z)
 (q:i.size=size) (r:i.bytes=bytes) (b:z.cells.size=size) (y:0<size) (v:Value) (n:Nat) (xs:List Value) (A:a.eval s=v) (C:w.ownsRow base e size v n xs)
 (d:Value) (m:Nat) (c:Nat->Value) (B:Nat) (D:a.eval x=d) (E:Row w B size d m c) (news:List Value) (F:news.length=m*size) (G:∀j,j<m*size->news[j]? =some (c j)) (H:∀u∈news,u.oneCell'=true)
 (f:n+m<=maxLen) (I:(n+m)*bytes<=140737488355328) (J:base<=w.heap.size)
 (h:∀v' w',w'.ownsRow base e size v' (n+m) (xs++news)->w.grownBy w' v.ownBlock->w'.ownsRow base e size v n xs->wpList P ops Q rest (a.put o.dst v') w'):wpList P ops Q (o::rest) a w:=
 wpList_plain g λ_ K=>eU s x t k base e i z size bytes l hi p q r b y v n xs A C d m c B D E news F G H f I J λv' w' L M N=>K _ _ (h v' w' L M N)
end
theorem cr{base:Nat}{sz:Nat}{xs:List Value}(h:w.ownsRow base e sz v n xs):∃a c,v=.slice a n c:=by
 rcases h.2 with⟨rfl,rfl⟩|⟨g,cap,cur,rfl,_⟩
 ·exact⟨_,_,rfl⟩
 ·exact⟨_,_,rfl⟩
theorem UY(w:World)(v:Value)(t:TypeId):Row (w.alloc (.cells #[v] t)) (w.heap.size+1) 1 (.slice (some ⟨w.heap.size,0,none⟩) 1 1) 1 (λ_=>v):=
 ⟨by decide,_,_,rfl,lR,by decide,λ_=>⟨_,_,rfl,Nat.lt_succ_self _,λi hi=>by
  have:i=0:=by omega
  subst this;exact cell_of_one (a_ _ _)⟩⟩
theorem one_one(h:v.oneCell'=true):∀u∈[v],u.oneCell'=true:=λu hu=>by
 rw[aJ.1 hu];exact h
theorem mi{base:Nat}{sz:Nat}{x:Value}{xs:List Value}{c:Array Value}{o:Nat}(h:w.ownsRow base e sz v n xs)(f:w.heap[b]? =some (.cells c t (0,0)))(g:t≠e):(w.setCell ⟨b,o,none⟩ x).ownsRow base e sz v n xs:=
 nD h λk d a=>(au _ _ _ _ (λi=>by
  have d:k=b:=i;subst d;rw[f]at a;cases a;exact g rfl)).trans a
def ahi(T:TypeId->Prop):Obj->Prop
 | .cells _ t _=>¬T t
 |_=>True
theorem nS{T:TypeId->Prop}{c:Array Value}{f:Nat×Nat}(h:¬T t):ahi T (.cells c t f):=h
structure iC (T:TypeId->Prop) (E:Nat->Prop) (base:Nat) (w w':World):Prop where
 os:w'.os=w.os
 tape:w'.tape=w.tape
 output:w'.output=w.output
 size:w.heap.size<=w'.heap.size
 same:∀(q:Nat) (o:Obj),w.heap[q]? =some o->¬E q->(q<base\/ahi T o)->w'.heap[q]? =some o
namespace iC
variable {T:TypeId->Prop} {E:Nat->Prop} {base:Nat} {a b c:World}
theorem refl(w:World):iC T E base w w:=⟨rfl,rfl,rfl,lR,λ_ _ h _ _=>h⟩
theorem trans(h:iC T E base a b)(h':iC T E base b c):iC T E base a c:=
 ⟨h'.os.trans h.os,h'.tape.trans h.tape,h'.output.trans h.output,ai h.size h'.size,λq o e d f=>h'.same q o (h.same q o e d f) d f⟩
theorem cB(h:Below a.heap.size a b):iC T E base a b:=
 ⟨h.os,h.tape,h.output,h.size,λq _ e _ _=>(h.block q (gE e).1).trans e⟩
theorem below(h:iC T E base a b)(d:Below b.heap.size b c):iC T E base a c:=h.trans (cB d)
theorem toBelow(h:iC T E base a b)(hB:B<=base)(hw:B<=a.heap.size)(c:∀q,q<B->¬E q):Below B a b:=
 ⟨h.os,h.tape,h.output,h.size,λq d=>by
  have e:a.heap[q]? =some (a.heap[q]'(by omega)):=cD (by omega);rw[e];exact h.same q _ e (c q d) (.inl (by omega))⟩
theorem setCell(h:iC T E base a b){p:Addr}(hp:E p.block)(v:Value):iC T E base a (b.setCell p v):=
 ⟨h.os,h.tape,h.output,by simpa [World.setCell] using h.size,λq o e c d=>(au _ _ _ _ (λf=>by subst f;exact c hp)).trans (h.same q o e c d)⟩
theorem UZ(h:iC T E base a b){p:Addr}(hp:a.heap.size<=p.block)(v:Value):iC T E base a (b.setCell p v):=
 ⟨h.os,h.tape,h.output,by simpa [World.setCell] using h.size,λq o e c d=>(au _ _ _ _ (by have:=(gE e).1;omega)).trans (h.same q o e c d)⟩
theorem grown{sz:Nat}{cs:List Value}(h:iC T E base a b)(j:b.ownsRow base t sz v n cs)(k:T t)(d:b.grownBy c v.ownBlock):iC T E base a c:=
 h.trans ⟨d.os,d.tape,d.output,d.size,λq o e _ f=>by
  refine(d.block q (gE e).1 (λl=> ?_)).trans e;have i:=l.symm;rcases j.2 with⟨rfl,_⟩|⟨g,cap,cur,rfl,p,m,_⟩
  ·simp[Value.ownBlock]at i
  ·simp only[Value.ownBlock,aL]at i;subst i;rcases f with f|f
   ·omega
   ·rw[m]at e;cases e;exact f k⟩
theorem weaken{T':TypeId->Prop}{E':Nat->Prop}{g:Nat}(h:iC T' E' g a b)(l:∀t,T' t->T t)(m:∀q,q<a.heap.size->E' q->E q)(i:base<=g\/a.heap.size<=g):iC T E base a b:=
 ⟨h.os,h.tape,h.output,h.size,λq o e j d=>h.same q o e (λk=>j (m q (gE e).1 k)) (by
  have:=(gE e).1;rcases d with d|d
  ·rcases i with i|i
   ·exact .inl (by omega)
   ·exact .inl (by omega)
  ·refine .inr ?_;cases o with
   |cells c t f=>exact λk=>d (l t k)
   |_=>trivial)⟩
end iC
theorem iC.own{T:TypeId->Prop}{E:Nat->Prop}{base d:Nat}{a b:World}{sz:Nat}{xs:List Value}(f:iC T E base a b)(h:a.ownsRow d e sz v n xs)(g:¬T e)(i:∀q c,a.heap[q]? =some (.cells c e (0,0))->¬E q):b.ownsRow d e sz v n xs:=
 nD h λk c hc=>f.same k _ hc (i k c hc) (.inr (nS g))
theorem af{o:Nat}(h:w.cell? ⟨b,o,none⟩=some v):b<w.heap.size:=by
 apply Nat.lt_of_not_le;intro a;unfold World.cell? at h;simp[Array.getElem?_eq_none a]at h
theorem ag{a b c:World}(h:Below B a b)(h':Below b.heap.size b c)(hB:B<=a.heap.size):Below B a c:=h.trans (h'.mono (ai hB h.size))
theorem zI{q:Nat}{x:Value}(h:w.heap[q]? =some (.cells #[x] t (0,0))):∀(j:Nat) (u:Value),[x][j]? =some u->w.cell? ((⟨q,0,none⟩:Addr).add j)=some u:=λj u a=>by
 rw[Addr.add_lit,a8,cell_of_row _ _ _ _ _ _ h,aF];exact a
theorem acP{V a:World}{x y z:Value}(h:V.cell? ⟨b,0,none⟩=some x/\V.cell? ⟨b,1,none⟩=some y/\V.cell? ⟨b,2,none⟩=some z)(c:Below V.heap.size V a):a.cell? ⟨b,0,none⟩=some x/\a.cell? ⟨b,1,none⟩=some y/\a.cell? ⟨b,2,none⟩=some z:=
 ⟨(c.cell (p:=⟨b,0,none⟩) (af h.1)).trans h.1,(c.cell (p:=⟨b,1,none⟩) (af h.1)).trans h.2.1,(c.cell (p:=⟨b,2,none⟩) (af h.1)).trans h.2.2⟩
def Fo.len:Fo->Nat
 | .nil=>0
 | .cons _ _ _ r=>r.len+1
theorem Fo.jg:∀F:Fo,F.list.length=F.len
 | .nil=>rfl
 | .cons a n k r=>by unfold Fo.list Fo.len;rw[aD,Fo.jg r]
theorem Fo.nE:∀F:Fo,F.len<=F.size
 | .nil=>lR
 | .cons a n k r=>by have:=Fo.nE r;unfold Fo.len Fo.size;omega
def iQ(w:World)(B:Nat):Fo->(Nat->Value)->Prop
 | .nil,_=>True
 | .cons a n k r,c=>c 0=.int .i64 a/\c 1=.int .i64 n/\(∃ck,Row w B 3 (c 2) k.len ck/\iQ w B k ck)/\iQ w B r (λi=>c (i+3))
def dr(w:World)(B:Nat)(v:Value)(F:Fo):Prop:=∃c,Row w B 3 v F.len c/\iQ w B F c
theorem iQ.below:∀{F:Fo} {c:Nat->Value},iQ w B F c->∀{B':Nat},Below B' w w'->B<=B'->iQ w' B F c
 | .nil,_,_,_,_,_=>trivial
 | .cons _ _ _ _,_,⟨b,d,⟨ck,e,hc⟩,f⟩,_,a,hB=>⟨b,d,⟨ck,e.below a hB,hc.below a hB⟩,f.below a hB⟩
theorem iQ.mono{B':Nat}(hB:B<=B'):∀{F:Fo} {c:Nat->Value},iQ w B F c->iQ w B' F c
 | .nil,_,_=>trivial
 | .cons _ _ _ _,_,⟨a,b,⟨ck,d,hc⟩,e⟩=>⟨a,b,⟨ck,d.mono hB,hc.mono hB⟩,e.mono hB⟩
theorem dr.below{F:Fo}(h:dr w B v F){B':Nat}(a:Below B' w w')(hB:B<=B'):dr w' B v F:=let⟨c,b,hc⟩:=h;⟨c,b.below a hB,hc.below a hB⟩
theorem dr.mono{F:Fo}(h:dr w B v F){B':Nat}(hB:B<=B'):dr w B' v F:=let⟨c,a,hc⟩:=h;⟨c,a.mono hB,hc.mono hB⟩
theorem dr.slice{F:Fo}(h:dr w B v F):∃a c,v=.slice a F.len c:=by obtain⟨c,⟨_,a,cap,rfl,_⟩,_⟩:=h;exact⟨_,_,rfl⟩
theorem dr.small{F:Fo}(h:dr w B v F):F.len<=140737488355328:=by obtain⟨c,⟨h,_⟩,_⟩:=h;exact h
def Fo.at:Fo->Nat->Nd
 | .nil,_=>default
 | .cons a n k _,0=>⟨a,n,k⟩
 | .cons _ _ _ r,i+1=>r.at i
theorem Fo.v7:∀(F:Fo) (i:Nat),F.at i=F.list[i]?.getD default
 | .nil,_=>rfl
 | .cons a n k r,0=>rfl
 | .cons a n k r,i+1=>by unfold Fo.at Fo.list;rw[Fo.v7 r i];rfl
theorem Fo.at_mem{F:Fo}(h:i<F.len):F.at i∈F.list:=by
 rw[Fo.v7,ae (by rw[Fo.jg];exact h)];exact aR _
theorem Fo.eD{F:Fo}(h:i<F.len):1+(F.at i).k.size<=F.size:=Fo.y8 F _ (Fo.at_mem h)
theorem iQ.at:∀{F:Fo} {c:Nat->Value},iQ w B F c->∀{i:Nat},i<F.len->c (i*3)=.int .i64 (F.at i).a/\c (i*3+1)=.int .i64 (F.at i).n/\dr w B (c (i*3+2)) (F.at i).k
 | .nil,_,_,i,hi=>ay hi (ax _)
 | .cons _ _ _ _,_,⟨a,b,d,_⟩,0,_=>⟨a,b,d⟩
 | .cons _ _ _ _,c,⟨_,_,_,e⟩,i+1,hi=>by
  have:=e.at (i:=i) (by unfold Fo.len at hi;omega);rw[show(i+1)*3=i*3+3 by omega,show i*3+3+1=i*3+1+3 by omega,show i*3+3+2=i*3+2+3 by omega];exact this
theorem Fo.U0:∀{F G:Fo},F.len=G.len->(∀i,i<F.len->F.at i=G.at i)->F=G
 | .nil,.nil,_,_=>rfl
 | .nil,.cons _ _ _ _,h,_=>by simp[Fo.len]at h
 | .cons _ _ _ _,.nil,h,_=>by simp[Fo.len]at h
 | .cons a n k r,.cons b c d r',e,h=>by
  have f:(⟨a,n,k⟩:Nd)=⟨b,c,d⟩:=h 0 (Nat.succ_pos _);have g:r=r':=Fo.U0 (Nat.succ.inj e) λi hi=>h (i+1) (Nat.succ_lt_succ hi);injection f with j l m;rw[j,l,m,g]
def zJ(F G:Fo):Bool:=decide (F=G)
def jh(t u:Nd):Bool:=decide (t=u)
theorem A9{F G:Fo}(h:F.len≠G.len):zJ F G=false:=aB λe=>h (by rw[e])
theorem D7{F G:Fo}(h:jh (F.at i) (G.at i)=false):zJ F G=false:=aB λe=>by
 rw[e]at h;unfold jh at h;simp at h
theorem A_{F G:Fo}(a:F.len=G.len)(h:∀i,i<F.len->jh (F.at i) (G.at i)=true):zJ F G=true:=aI (Fo.U0 a λi hi=>bu (h i hi))
theorem P4{t u:Nd}(h:t.a≠u.a):jh t u=false:=aB λe=>h (by rw[e])
theorem P5{t u:Nd}(h:t.n≠u.n):jh t u=false:=aB λe=>h (by rw[e])
theorem P6{t u:Nd}(b:t.a=u.a)(c:t.n=u.n):jh t u=zJ t.k u.k:=by
 obtain⟨a,n,k⟩:=t;obtain⟨f,g,d⟩:=u;simp only at b c;subst b c;unfold jh zJ;by_cases h:k=d
 ·subst h;simp
 ·rw[aB h,aB λe=>h (by injection e)]
theorem jX{α:Type}[BEq α][LawfulBEq α]{x y:α}(h:x=y):(x != y)=false:=by rw[h];simp
theorem gy{α:Type}[BEq α][LawfulBEq α]{x y:α}(h:x≠y):(x != y)=true:=by simp[h]
def cV(w:World)(B:Nat)(v:Value)(t:Nd):Prop:=∃s,v=.agg #[.int .i64 t.a,.int .i64 t.n,s]/\dr w B s t.k
theorem cV.below{t:Nd}(h:cV w B v t){B':Nat}(a:Below B' w w')(hB:B<=B'):cV w' B v t:=let⟨s,e,b⟩:=h;⟨s,e,b.below a hB⟩
theorem cV.mono{t:Nd}(h:cV w B v t){B':Nat}(hB:B<=B'):cV w B' v t:=let⟨s,e,a⟩:=h;⟨s,e,a.mono hB⟩
theorem dC{wr:World}{F:Fo}(h:dr w B v F)(d:Below B w wr)(l:k<F.len):
 ∃b off cap p e,v=.slice (some ⟨b,off,none⟩) F.len cap/\b<B/\wr.cell? ⟨b,off+k*3,none⟩=some (.int .i64 (F.at k).a)/\wr.cell? ⟨b,off+k*3+1,none⟩=some (.int .i64 (F.at k).n)/\
  wr.cell? ⟨b,off+k*3+2,none⟩=some (.slice p (F.at k).k.len e)/\dr wr B (.slice p (F.at k).k.len e) (F.at k).k:=by
 obtain⟨c,⟨_,a,cap,rfl,_,_,m⟩,hc⟩:=h;obtain⟨b,off,rfl,f,g⟩:=m (by omega);obtain⟨n,o,i⟩:=hc.at l;obtain⟨p,e,j⟩:=i.slice;refine⟨b,off,cap,p,e,rfl,f,?_,?_,?_,?_⟩
 ·rw[d.cell (p:=⟨b,off+k*3,none⟩) f,g _ (by omega),n]
 ·rw[d.cell (p:=⟨b,off+k*3+1,none⟩) f,bN,g _ (by omega),o]
 ·rw[d.cell (p:=⟨b,off+k*3+2,none⟩) f,bN,g _ (by omega),j]
 ·rw[<-j];exact i.below d lR
end
end Go.Proofs.YtnicceekibancaaGreat
