/- Lemmas: KTy TypX GrK GrJ GrD GrL GrM GrN KuA GrO KuB TeF TeG KRng TeH TeI KSortA KSortB. -/
import Derived.Test.YtnicceekibancaaGreatBZ
import Derived.Test.YtnicceekibancaaGreatBAB
import Derived.Test.YtnicceekibancaaGreatBAA
import Derived.Test.YtnicceekibancaaGreatBAD
import Derived.Deep.Cut
import Derived.Maps.Range
import Derived.Test.YtnicceekibancaaGreatProg
import Derived.Shelf.Sort.Plain
import Derived.Ground.NamesProg
import Derived.Ground.Names2Prog
import Derived.Sort.OwnSortedInts
import Derived.Lib.OwnBridge
import Derived.Shelf.Slices.In.SortNone
set_option linter.all false
set_option maxRecDepth 100000
set_option maxHeartbeats 8000000
namespace Go.Proofs.YtnicceekibancaaGreat
section
open Go Go.RowKit
def xF(S:Nat->Obj->Prop)(w:World)(sz:Nat)(v:Value)(n:Nat)(c:Nat->Value):Prop:=
 n<=140737488355328/\∃a cap,v=.slice a n cap/\n<=cap/\cap<=maxLen/\(0<n->∃b off o,a=some ⟨b,off,none⟩/\S b o/\w.heap[b]? =some o/\∀i,i<n*sz->w.cell? ⟨b,off+i,none⟩=some (c i))
def gN(S:Nat->Obj->Prop)(w w':World):Prop:=∀(b:Nat) (o:Obj),S b o->w.heap[b]? =some o->w'.heap[b]? =some o
theorem gN.below{S:Nat->Obj->Prop}{w w':World}(h:Below w.heap.size w w'):gN S w w':=λb o _ e=>(h.block b (gE e).1).trans e
theorem xF.keep{S:Nat->Obj->Prop}{w w':World}{sz:Nat}{v:Value}{n:Nat}{c:Nat->Value}(h:xF S w sz v n c)(g:gN S w w'):xF S w' sz v n c:=by
 obtain⟨j,a,cap,k,l,m,p⟩:=h;refine⟨j,a,cap,k,l,m,λq=> ?_⟩;obtain⟨b,off,o,r,d,e,hc⟩:=p q;have f:=g b _ d e;refine⟨b,off,o,r,d,f,λi hi=> ?_⟩;rw[<-hc i hi];simp only[World.cell?,e,f]
theorem xF.mono{S S':Nat->Obj->Prop}{w:World}{sz:Nat}{v:Value}{n:Nat}{c:Nat->Value}(h:xF S w sz v n c)(d:∀b o,w.heap[b]? =some o->S b o->S' b o):xF S' w sz v n c:=by
 obtain⟨f,a,cap,g,i,j,k⟩:=h;refine⟨f,a,cap,g,i,j,λl=> ?_⟩;obtain⟨b,off,o,m,p,e,hc⟩:=k l;exact⟨b,off,o,m,d b o e p,e,hc⟩
theorem xF.row{S:Nat->Obj->Prop}{w:World}{sz B:Nat}{v:Value}{n:Nat}{c:Nat->Value}(h:xF S w sz v n c)(hB:∀b o,w.heap[b]? =some o->S b o->b<B):Row w B sz v n c:=by
 obtain⟨d,a,cap,f,g,i,j⟩:=h;refine⟨d,a,cap,f,g,i,λk=> ?_⟩;obtain⟨b,off,o,l,m,e,hc⟩:=j k;exact⟨b,off,l,hB b o e m,hc⟩
def yy(S:Nat->Obj->Prop)(w:World):Fo->(Nat->Value)->Prop
 | .nil,_=>True
 | .cons a n k r,c=>c 0=.int .i64 a/\c 1=.int .i64 n/\(∃ck,xF S w 3 (c 2) k.len ck/\yy S w k ck)/\yy S w r (λi=>c (i+3))
def iJ(S:Nat->Obj->Prop)(w:World)(v:Value)(F:Fo):Prop:=∃c,xF S w 3 v F.len c/\yy S w F c
section
variable {S S':Nat->Obj->Prop} {w w':World} {v:Value}
theorem yy.keep(a:gN S w w'):∀{F:Fo} {c:Nat->Value},yy S w F c->yy S w' F c
 | .nil,_,_=>trivial
 | .cons _ _ _ _,_,⟨b,d,⟨ck,e,hc⟩,f⟩=>⟨b,d,⟨ck,e.keep a,hc.keep a⟩,f.keep a⟩
theorem yy.mono(a:∀b o,w.heap[b]? =some o->S b o->S' b o):∀{F:Fo} {c:Nat->Value},yy S w F c->yy S' w F c
 | .nil,_,_=>trivial
 | .cons _ _ _ _,_,⟨d,e,⟨ck,f,hc⟩,g⟩=>⟨d,e,⟨ck,f.mono a,hc.mono a⟩,g.mono a⟩
theorem iJ.keep{F:Fo}(h:iJ S w v F)(a:gN S w w'):iJ S w' v F:=let⟨c,b,hc⟩:=h;⟨c,b.keep a,hc.keep a⟩
theorem iJ.mono{F:Fo}(h:iJ S w v F)(a:∀b o,w.heap[b]? =some o->S b o->S' b o):iJ S' w v F:=let⟨c,d,hc⟩:=h;⟨c,d.mono a,hc.mono a⟩
theorem iJ.slice{F:Fo}(h:iJ S w v F):∃a c,v=.slice a F.len c:=by obtain⟨c,⟨_,a,cap,rfl,_⟩,_⟩:=h;exact⟨_,_,rfl⟩
theorem yy.cells{B:Nat}(hB:∀b o,w.heap[b]? =some o->S b o->b<B):∀{F:Fo} {c:Nat->Value},yy S w F c->iQ w B F c
 | .nil,_,_=>trivial
 | .cons _ _ _ _,_,⟨a,d,⟨ck,e,hc⟩,f⟩=>⟨a,d,⟨ck,e.row hB,hc.cells hB⟩,f.cells hB⟩
theorem iJ.at_{B:Nat}{F:Fo}(h:iJ S w v F)(hB:∀b o,w.heap[b]? =some o->S b o->b<B):dr w B v F:=let⟨c,a,hc⟩:=h;⟨c,a.row hB,hc.cells hB⟩
theorem iJ.nil(S:Nat->Obj->Prop)(w:World):iJ S w (.slice none 0 0) .nil:=⟨λ_=>undef,⟨by decide,none,0,rfl,lR,by decide,λh=>ay h (dy _)⟩,trivial⟩
end
def nO(T:TypeId)(L:Nat)(b:Nat)(o:Obj):Prop:=L<=b/\∃cur f,o=.cells cur T f
def eF:List Nd->List Value->List Value
 |t::ts,p::ps=>[.int .i64 t.a,.int .i64 t.n,p]++eF ts ps
 |_,_=>[]
theorem nP:∀{ts:List Nd} {ps:List Value},ps.length=ts.length->(eF ts ps).length=ts.length*3
 |[],[],_=>rfl
 |_::ts,_::ps,h=>by
  have:=nP (ts:=ts) (ps:=ps) (by simpa using h);unfold eF;rw[az,this];simp;omega
 |[],_::_,h=>by simp at h
 |_::_,[],h=>by simp at h
theorem Aa:∀{ts:List Nd} {ps:List Value} {t:Nd} {p:Value},ps.length=ts.length->eF (ts++[t]) (ps++[p])=eF ts ps++[.int .i64 t.a,.int .i64 t.n,p]
 |[],[],t,p,_=>by simp[eF]
 |u::ts,q::ps,t,p,h=>by
  show[.int .i64 u.a,.int .i64 u.n,q]++eF (ts++[t]) (ps++[p])=([.int .i64 u.a,.int .i64 u.n,q]++eF ts ps)++_;rw[Aa (by simpa using h),aG]
 |[],_::_,_,_,h=>by simp at h
 |_::_,[],_,_,h=>by simp at h
theorem Jp{S:Nat->Obj->Prop}{w:World}:∀{ts:List Nd} {ps:List Value} {c:Nat->Value},ps.length=ts.length->(∀i,i<ts.length*3->(eF ts ps)[i]? =some (c i))->(∀i,i<ts.length->iJ S w (ps[i]?.getD undef) (ts[i]?.getD default).k)->yy S w (Fo.of ts) c
 |[],_,_,_,_,_=>trivial
 |t::ts,p::ps,c,a,hc,d=>by
  have e:=hc 0 (by simp);have f:=hc 1 (by simp;omega);have g:=hc 2 (by simp;omega);have b:=d 0 (by simp);have j:c 0=.int .i64 t.a:=by simpa [eF] using e.symm
  have k:c 1=.int .i64 t.n:=by simpa [eF] using f.symm
  have l:c 2=p:=by simpa [eF] using g.symm
  refine⟨j,k,?_,Jp (ps:=ps) (by simpa using a) (λi hi=> ?_) (λi hi=> ?_)⟩
  ·rw[l];have b:iJ S w p t.k:=b;exact b
  ·have:=hc (i+3) (by simp only[aD];omega);rw[<-this];show _=([.int .i64 t.a,.int .i64 t.n,p]++eF ts ps)[i+3]?;rw[bo (by simp)];simp
  ·have:=d (i+1) (by simpa using hi);simpa using this
 |_::_,[],_,a,_,_=>by simp at a
theorem Fo.p7:∀l:List Nd,(Fo.of l).len=l.length
 |[]=>rfl
 |t::l=>by unfold Fo.of Fo.len;rw[Fo.p7 l];rfl
structure j_ (w:World) (base:Nat) (S:Nat->Obj->Prop) (T:TypeId) (v:Value) (ts:List Nd) (ps:List Value):Prop where
 len:ps.length=ts.length
 own:w.ownsRow base T 3 v ts.length (eF ts ps)
 parts:∀i,i<ts.length->iJ (λb o=>S b o/\some b≠v.ownBlock) w (ps[i]?.getD undef) (ts[i]?.getD default).k
theorem j_.nil(w:World)(base:Nat)(S:Nat->Obj->Prop)(T:TypeId):j_ w base S T (.slice none 0 0) [] []:=⟨rfl,aZ _ _ _ _,λi hi=>ay hi (ax _)⟩
theorem j_.slice{w:World}{base:Nat}{S:Nat->Obj->Prop}{T:TypeId}{v:Value}{ts:List Nd}{ps:List Value}(h:j_ w base S T v ts ps):∃a c,v=.slice a ts.length c:=cr h.own
theorem j_.aaC{w:World}{base:Nat}{S:Nat->Obj->Prop}{T:TypeId}{v:Value}{ts:List Nd}{ps:List Value}(h:j_ w base S T v ts ps)(o:∀b cur,base<=b->S b (.cells cur T (0,0)))(f:ts.length<=140737488355328):iJ S w v (Fo.of ts):=by
 have d:=eS h.own f (c:=λi=>(eF ts ps)[i]?.getD undef) (λi hi=>by
  rw[ae (by rw[nP h.len];exact hi)];rfl)
 have p:=h.own.2;obtain⟨_,a,cap,j,q,r,d⟩:=d;refine⟨λi=>(eF ts ps)[i]?.getD undef,⟨by rw[Fo.p7];exact f,a,cap,by rw[Fo.p7];exact j,by rw[Fo.p7];exact q,r,λk=> ?_⟩,Jp h.len (λi hi=> ?_) (λi hi=>(h.parts i hi).mono λb _ _ l=>l.1)⟩
 ·rw[Fo.p7]at k;obtain⟨b,off,m,l,hc⟩:=d k;rcases p with⟨_,t⟩|⟨g,u,cur,n,e,s,_⟩
  ·omega
  ·rw[j,m]at n;cases n;exact⟨b,0,_,m,o b cur e,s,λi hi=>hc i (by rw[Fo.p7]at hi;exact hi)⟩
 ·rw[ae (by rw[nP h.len];exact hi)];rfl
theorem j_.snoc{w w1:World}{base:Nat}{S:Nat->Obj->Prop}{T:TypeId}{v v' p:Value}{ts:List Nd}{ps:List Value}{t:Nd}(h:j_ w base S T v ts ps)(g:w1.ownsRow base T 3 v' (ts.length+1) (eF ts ps++[.int .i64 t.a,.int .i64 t.n,p]))(j:w.grownBy w1 v.ownBlock)
 (k:v'.ownBlock=v.ownBlock\/v'.ownBlock=some w.heap.size) (hp:iJ (λb o=>S b o/\some b≠v.ownBlock) w p t.k):j_ w1 base S T v' (ts++[t]) (ps++[p]):=by
 have c:gN (λb o=>S b o/\some b≠v.ownBlock) w w1:=λb o a e=>(j.block b (gE e).1 a.2).trans e;have key:∀{q:Value} {F:Fo},iJ (λb o=>S b o/\some b≠v.ownBlock) w q F->iJ (λb o=>S b o/\some b≠v'.ownBlock) w1 q F:=λ{q F} d=>by
  rcases k with e|e
  ·exact(d.keep c).mono λb _ _ a=>⟨a.1,by rw[e];exact a.2⟩
  ·have l:iJ (λb o=>(S b o/\some b≠v.ownBlock)/\b<w.heap.size) w q F:=d.mono λb o a m=>⟨m,(gE a).1⟩;refine(l.keep λb o a e=>c b o a.1 e).mono λb _ _ a=>⟨a.1.1,λf=> ?_⟩;rw[e]at f;cases f;omega
 refine⟨by simp[h.len],by rw[az,aY,Aa h.len];exact g,λi hi=> ?_⟩;rw[az,aY]at hi;by_cases e:i<ts.length
 ·rw[bM (by rw[h.len];exact e),bM e];exact key (h.parts i e)
 ·obtain rfl:i=ts.length:=by omega
  rw[bo (by rw[h.len];exact lR),bo lR,h.len,Nat.sub_self];exact key hp
theorem j_.keep{w w1:World}{base:Nat}{S:Nat->Obj->Prop}{T:TypeId}{v:Value}{ts:List Nd}{ps:List Value}(h:j_ w base S T v ts ps)(c:∀b cur,base<=b->w.heap[b]? =some (.cells cur T (0,0))->w1.heap[b]? =some (.cells cur T (0,0)))(d:gN S w w1):j_ w1 base S T v ts ps:=by
 refine⟨h.len,⟨h.own.1,?_⟩,λi hi=>(h.parts i hi).keep λb o a e=>d b o a.1 e⟩;rcases h.own.2 with f|⟨g,cap,cur,rfl,a,j,rest⟩
 ·exact .inl f
 ·exact .inr ⟨g,cap,cur,rfl,a,c g _ a j,rest⟩
end
section
def Nd.Gh(vs:List Int)(T:Nd):Nd:=if T.a=1 then⟨1,qF vs T.n,.nil⟩else⟨T.a,T.n,(T.k.num vs).2⟩
def Nd.Ab(vs:List Int)(T:Nd):List Int:=if T.a=1 then iw vs T.n else(T.k.num vs).1
theorem Fo.Ac(a n:Int)(k r:Fo)(vs:List Int):(Fo.cons a n k r).num vs=((r.num (Nd.Ab vs ⟨a,n,k⟩)).1,.cons (Nd.Gh vs ⟨a,n,k⟩).a (Nd.Gh vs ⟨a,n,k⟩).n (Nd.Gh vs ⟨a,n,k⟩).k (r.num (Nd.Ab vs ⟨a,n,k⟩)).2):=by
 unfold Nd.Gh Nd.Ab
 conv=>lhs;unfold Fo.num
 by_cases e:a=1
 ·simp only[aq e]
 ·simp only[ah e]
theorem of_cons(t:Nd)(l:List Nd):Fo.of (t::l)=.cons t.a t.n t.k (Fo.of l):=rfl
theorem EY:∀(l:List Nd) (T:Nd) (vs:List Int),((Fo.of (l++[T])).num vs).1=Nd.Ab ((Fo.of l).num vs).1 T/\((Fo.of (l++[T])).num vs).2.list=((Fo.of l).num vs).2.list++[Nd.Gh ((Fo.of l).num vs).1 T]
 |[],T,vs=>by
  show((Fo.of [T]).num vs).1=Nd.Ab vs T/\((Fo.of [T]).num vs).2.list=[Nd.Gh vs T];rw[of_cons,Fo.Ac];exact⟨rfl,rfl⟩
 |t::l,T,vs=>by
  obtain⟨a,b⟩:=EY l T (Nd.Ab vs t);rw[bJ,of_cons,of_cons,Fo.Ac,Fo.Ac];exact⟨a,by show _::_=(_::_)++_;rw[b];rfl⟩
theorem td:∀(l:List Nd) (T:Nd),(Fo.of (l++[T])).size=(Fo.of l).size+T.size
 |[],T=>by show(Fo.of [T]).size=0+T.size;rw[of_cons];show 1+T.k.size+0=0+(1+T.k.size);omega
 |t::l,T=>by
  rw[bJ,of_cons,of_cons];have:=td l T;show 1+t.k.size+_=1+t.k.size+_+T.size;omega
def Fo.Br(P:Int->Prop):Fo->Prop
 | .nil=>True
 | .cons a n k r=>(a=1->P n)/\k.Br P/\r.Br P
theorem Fo.Bs{P Q:Int->Prop}(h:∀x,P x->Q x):∀{F:Fo},F.Br P->F.Br Q
 | .nil,_=>trivial
 | .cons _ _ _ _,a=>⟨λe=>h _ (a.1 e),Fo.Bs h a.2.1,Fo.Bs h a.2.2⟩
theorem Fo.Hn{P:Int->Prop}:∀{L:List Nd} {T:Nd},(Fo.of L).Br P->T.one.Br P->(Fo.of (L++[T])).Br P
 |[],_,_,h=>⟨h.1,h.2.1,trivial⟩
 |_::_,_,a,h=>⟨a.1,a.2.1,Fo.Hn a.2.2 h⟩
structure vn (T:Nd) (left:Int) (vs:List Int) (lg:Bool) (T':Nd) (gT:Int) (o_:List Int) (rC:Bool):Prop where
 fit:(T.size:Int)<=left->T'=Nd.Gh vs T/\gT=left-T.size/\o_=Nd.Ab vs T/\rC=lg
 cut:¬(T.size:Int)<=left->rC=true
 keep:lg=true->rC=true
 down:gT<=left-1
 low:left<=0->left-1<=gT
 ahE:1<=left->-1-1000000*left<=gT
 many:o_.length+gT.toNat<=vs.length+left.toNat
 vars:T'.one.Br λx=>0<=x/\x<(o_.length:Nat)
 mono:vs.length<=o_.length
 size:(T'.size:Int)=left-gT
structure xG (L:List Nd) (left:Int) (vs:List Int) (lg:Bool) (Ts:List Nd) (gT:Int) (o_:List Int) (rC:Bool):Prop where
 fit:((Fo.of L).size:Int)<=left->Ts=((Fo.of L).num vs).2.list/\gT=left-(Fo.of L).size/\o_=((Fo.of L).num vs).1/\rC=lg
 cut:¬((Fo.of L).size:Int)<=left->rC=true
 keep:lg=true->rC=true
 down:gT<=left
 low: -1-1000000*left-L.length<=gT
 many:o_.length+gT.toNat<=vs.length+left.toNat
 len:Ts.length=L.length
 vars:(Fo.of Ts).Br λx=>0<=x/\x<(o_.length:Nat)
 mono:vs.length<=o_.length
 size:((Fo.of Ts).size:Int)=left-gT
theorem xG.nil(left:Int)(h:0<=left)(vs:List Int)(lg:Bool):xG [] left vs lg [] left vs lg:=by
 refine⟨λ_=>⟨rfl,?_,rfl,rfl⟩,λa=>ay a ?_,λh=>h,Int.le_refl _,?_,lR,rfl,trivial,lR,by show((0:Nat):Int)=left-left;omega⟩
 ·show left=left-((0:Nat):Int);omega
 ·intro a;exact a (by show((0:Nat):Int)<=left;omega)
 ·simp only[List.length_nil];omega
theorem xG.snoc{L:List Nd}{T:Nd}{left g j:Int}{vs a b:List Int}{lg c d:Bool}{Ts:List Nd}{T':Nd}(r:0<=left)(h:xG L left vs lg Ts g a c)(h':vn T g a c T' j b d):
 xG (L++[T]) left vs lg (Ts++[T']) j b d:=by
 have i:=td L T;obtain⟨l,m⟩:=EY L T vs;refine⟨λf=> ?_,λhc=> ?_,λe=>h'.keep (h.keep e),?_,?_,ai h'.many h.many,by simp[h.len],Fo.Hn (Fo.Bs (λx k=>⟨k.1,by have:=h'.mono;omega⟩) h.vars) h'.vars,ai h.mono h'.mono,by have:=td Ts T';have:=h.size;have:=h'.size;omega⟩
 ·rw[i]at f;obtain⟨k,a2,a3,a4⟩:=h.fit (by omega);obtain⟨n,o,p,q⟩:=h'.fit (by omega);refine⟨by rw[m,k,n,a3],by rw[i,o,a2];omega,by rw[l,p,a3],q.trans a4⟩
 ·rw[i]at hc;by_cases f:((Fo.of L).size:Int)<=left
  ·obtain⟨k,a2,a3,a4⟩:=h.fit f;exact h'.cut (by omega)
  ·exact h'.keep (h.cut f)
 ·have:=h'.down;have:=h.down;omega
 ·have n:=h.low;have o:=h.down;rw[az,aY];by_cases k:1<=g
  ·have:=h'.ahE k;omega
  ·have:=h'.low (by omega);omega
theorem xG.node{L:List Nd}{s z left f:Int}{vs a:List Int}{lg b:Bool}{Ts:List Nd}(c:s≠1)(j:1<=left)(k:L.length<=1000000)(h:xG L (left-1) vs lg Ts f a b):
 vn ⟨s,z,Fo.of L⟩ left vs lg ⟨s,z,Fo.of Ts⟩ f a b:=by
 have d:(Nd.mk s z (Fo.of L)).size=1+(Fo.of L).size:=rfl;refine⟨λg=> ?_,λhc=>h.cut (by rw[d]at hc;omega),h.keep,by have:=h.down;omega,λl=>by omega,λ_=>by have:=h.low;omega,by have:=h.many;omega,⟨λe=>ay e c,h.vars,trivial⟩,h.mono,by have:=h.size;show((1+(Fo.of Ts).size:Nat):Int)=_;omega⟩;rw[d]at g;obtain⟨i,a2,a3,a4⟩:=h.fit (by omega);refine⟨?_,by rw[d];omega,?_,a4⟩
 ·unfold Nd.Gh;rw[ah c,i,Fo.l9]
 ·unfold Nd.Ab;rw[ah c,a3]
theorem vn.var{z left:Int}{vs:List Int}{lg:Bool}(a:1<=left):vn ⟨1,z,.nil⟩ left vs lg ⟨1,qF vs z,.nil⟩ (left-1) (iw vs z) lg:=by
 have b:(iw vs z).length<=vs.length+1:=by unfold iw;split<;>simp
 refine⟨λ_=>⟨rfl,by show left-1=left-((1:Nat):Int);omega,rfl,rfl⟩,λhc=>ay (by show((1:Nat):Int)<=left;omega) hc,λh=>h,Int.le_refl _,λc=>by omega,λ_=>by omega,by omega,⟨λ_=>⟨by show 0<=qF vs z;unfold qF;omega,?_⟩,trivial,trivial⟩,by unfold iw;split<;>simp,by show((1:Nat):Int)=_;omega⟩;rw[zD vs z []];have:z∈iw vs z++[]:=by unfold iw;split<;>simp_all
 have:=List.idxOf_lt_length_of_mem this;rw[bk]at this |-;exact Int.ofNat_lt.2 this
theorem vn.o{T:Nd}{left:Int}{vs:List Int}{lg:Bool}(a:left<=0):vn T left vs lg default (left-1) vs true:=by
 have:1<=T.size:=by unfold Nd.size;omega
 exact⟨λb=>by omega,λ_=>rfl,λ_=>rfl,Int.le_refl _,λ_=>Int.le_refl _,λc=>by omega,by omega,⟨λe=>ay e (by decide),trivial,trivial⟩,lR,by show((1:Nat):Int)=_;omega⟩
end
section
open Go Go.RowKit
attribute [local go_sem] aT cW df
structure oS (w:World) (b0 y x:Nat) (vs:List Int) (rv:Option Nat) (vv:Value) (lg:Bool):Prop where
 fW:w.heap[y]? =some (.cells #[.pointer (some ⟨x,0,none⟩),vv,.bool lg] 119 (0,0))
 row:vv.ownBlock=rv
 own:w.ownsRow b0 3 1 vv vs.length (cE vs)
theorem oS.lt{w:World}{b0 y x:Nat}{vs:List Int}{rv:Option Nat}{vv:Value}{lg:Bool}(h:oS w b0 y x vs rv vv lg):y<w.heap.size/\∀q,rv=some q->q<w.heap.size/\∃cur,w.heap[q]? =some (.cells cur 3 (0,0)):=
 ⟨(gE h.fW).1,λq b=>by
  have a:=h.row;rcases h.own.2 with⟨rfl,_⟩|⟨g',cap,cur,rfl,_,c,_⟩
  ·rw[b]at a;cases a
  ·rw[b]at a;cases a;exact⟨(gE c).1,cur,c⟩⟩
theorem oS.keep{w w':World}{b0 y x:Nat}{vs:List Int}{rv:Option Nat}{vv:Value}{lg:Bool}(h:oS w b0 y x vs rv vv lg)(hy:∀o,w.heap[y]? =some o->w'.heap[y]? =some o)(a:∀q o,rv=some q->w.heap[q]? =some o->w'.heap[q]? =some o):oS w' b0 y x vs rv vv lg:=by
 refine⟨hy _ h.fW,h.row,⟨h.own.1,?_⟩⟩;have b:=h.row;rcases h.own.2 with c|⟨g',cap,cur,rfl,d,e,rest⟩
 ·exact .inl c
 ·exact .inr ⟨g',cap,cur,rfl,d,a _ _ b.symm e,rest⟩
theorem oS.below{w w':World}{b0 y x:Nat}{vs:List Int}{rv:Option Nat}{vv:Value}{lg:Bool}(h:oS w b0 y x vs rv vv lg)(b:Below w.heap.size w w'):oS w' b0 y x vs rv vv lg:=
 h.keep (λo a=>(b.block y (gE a).1).trans a) (λq o _ a=>(b.block q (gE a).1).trans a)
theorem EZ:∀(xs:List Int) (x:Int) (j:Nat),j<xs.idxOf x->cN xs j≠x
 |y::xs,x,j,h,e=>by
  rw[List.idxOf_cons]at h;cases hy:y==x with
  |true=>rw[hy]at h;simp at h
  |false=>
   rw[hy]at h;simp only[cond_false]at h;cases j with
   |zero=>
    have:y=x:=e;rw[this]at hy;simp at hy
   |succ j=>exact EZ xs x j (by omega) e
theorem Su(vs:List Int)(x:Int):idxOf (λk=>cN vs k==x) vs.length=if x∈vs then((vs.idxOf x:Nat):Int)else -1:=by
 by_cases h:x∈vs
 ·rw[aq h];have b:=zC h;have c:=(cL.1 b).1;refine xZ c (λj a=> ?_) ?_
  ·have:=EZ vs x j a;simpa using this
  ·have:cN vs (vs.idxOf x)=x:=by unfold cN;rw[b];rfl
   simp[this]
 ·rw[ah h];refine D0 λj a=> ?_;have:cN vs j≠x:=λe=>h (by
   rw[<-e];unfold cN;rw[ae a];exact aR _)
  simpa using this
theorem Ints.QE{w:World}{base:Nat}{v:Value}{n:Nat}{xs:List Int}(h:w.ownsRow base 3 1 v n (cE xs))(a:xs.length<=140737488355328):Ints w w.heap.size v xs:=by
 have b:xs.length=n:=by have:=h.1;rw[dJ]at this;omega
 subst b;exact eS h a λi hi=>eH xs i (by omega)
theorem Oj{w:World}{b0 y x:Nat}{vs:List Int}{rv:Option Nat}{vv:Value}{lg:Bool}(d:oS w b0 y x vs rv vv lg)(u:b0<=w.heap.size)(M:vs.length<=1000000000)(n:Int):
 Calls Tryz.prog 141 #[.pointer (some ⟨y,0,none⟩),.int .i64 n] w λe w'=>e=.returned (.int .i64 (qF vs n))/\∃G E,oS w' b0 y x (iw vs n) G E lg/\mR y rv G w w':=by
 obtain⟨m,p,rfl⟩:=cr d.own;have f:=hI (x9 (.slice m vs.length p) vs n w (Ints.QE d.own (by omega)));have c1:=eY d.fW;have f1:w.frozen? ⟨y,1,none⟩=false:=by simp[World.frozen?,d.fW]
 have r:=af c1;have b:=hI d;have F:=hI u;rw[Su]at f;clear d u;by_cases hm:n∈vs
 ·have g:Hd (qF vs n=((vs.idxOf n:Nat):Int)/\iw vs n=vs):=hI ⟨rfl,by unfold iw;rw[aq hm]⟩;rw[aq hm]at f;have hp:¬((vs.idxOf n:Nat):Int)<0:=by omega
  clear hm
  go_enter Tryz.func141,Tryz.ntmps141
  go_wp2_with (go_at_call 191;(with_reducible refine f.o.mono ?_);rintro e w' ⟨rfl,i⟩;rw[i];clear i w')
  go_ret;exact⟨by rw[g.o.1];rfl,rv,_,by rw[g.o.2];exact b.o,mR.refl _ _ _⟩
 ·have g:Hd (qF vs n=((vs.length:Nat):Int)/\iw vs n=vs++[n]):=hI ⟨by unfold qF;rw[(C7 hm).1],by unfold iw;rw[ah hm]⟩;rw[ah hm]at f;clear hm;obtain⟨i0,hi,v,z,A⟩:=info_parts Tryz.BZ
  go_enter Tryz.func141,Tryz.ntmps141
  go_wp2_with (first|(go_at_call 191;(with_reducible refine f.o.mono ?_);rintro e w' ⟨rfl,i⟩;rw[i];clear i w')|(at_builtin;refine wpList_append_own_at _ rfl _ _ 74 rfl b0 3 i0 (.int .i64 0) 1 8 Tryz.underlying74 hi v z A rfl (by decide) _ _ _ rfl (b.o.own.alloc _) ⟨w.heap.size,0,none⟩ 1 1 [.int .i64 n] rfl rfl ?c1 ?c2 ?c3 ?c4 ?c5 ?_))
  case c1=>exact zI (a_ _ _)
  case c2=>exact one_one rfl
  case c3=>unfold maxLen;omega
  case c4=>omega
  case c5=>have:=F.o;simp;omega
  intro v' w1 s c _ B;obtain⟨j,k,rfl⟩:=cr s;have a:=Below.cA w (.cells #[.int .i64 n] 3);have l:some y≠(Value.slice m vs.length p).ownBlock:=λe=>by
   obtain⟨_,cur,hc⟩:=b.o.lt.2 y (b.o.row.symm.trans e.symm);rw[b.o.fW]at hc;exact anR
  have G:w1.heap[y]? =some (.cells #[.pointer (some ⟨x,0,none⟩),.slice m vs.length p,.bool lg] 119 (0,0)):=(c.block y (aC r a.size) l).trans ((a.block y r).trans b.o.fW);have t:=eY G;have H:w1.frozen? ⟨y,1,none⟩=false:=by simp[World.frozen?,G]
  have I:=af t;have C:oS (w1.setCell ⟨y,1,none⟩ (.slice j (vs.length+1) k)) b0 y x (vs++[n]) (Value.slice j (vs.length+1) k).ownBlock (.slice j (vs.length+1) k) lg:=
   ⟨by rw[cz G];rfl,rfl,by
    rw[az,aY,<-eZ];exact mi s G (by decide)⟩
  have D:mR y rv (Value.slice j (vs.length+1) k).ownBlock w (w1.setCell ⟨y,1,none⟩ (.slice j (vs.length+1) k)):=by
   refine⟨c.os.trans a.os,c.tape.trans a.tape,c.output.trans a.output,by have:=a.size;have:=c.size;simp[World.setCell];omega,λq o e J K=> ?_,?_⟩
   ·have E:=(gE e).1;exact(au _ _ _ _ (λL=>J L)).trans ((c.block q (aC E a.size) (by rw[b.o.row];exact K)).trans ((a.block q E).trans e))
   ·rcases B with e|e
    ·exact .inl (e.trans b.o.row)
    ·exact .inr ⟨_,e,by simp⟩
  have E:=hI (show _/\_ from⟨C,D⟩);clear s c B a l G C D hi v z A i0 c1 f1 r;go_wp2;go_ret;exact⟨by rw[g.o.1];rfl,_,_,by rw[g.o.2];exact E.o.1,E.o.2⟩
theorem LF{w:World}{b0 y x:Nat}{vs:List Int}{rv:Option Nat}{vv:Value}{lg:Bool}(a:oS w b0 y x vs rv vv lg):
 Calls Tryz.prog 104 #[.pointer (some ⟨y,0,none⟩)] w λe w'=>e=.returned (.bool (!lg&&decide (vs.length<=20)))/\w'=w:=by
 obtain⟨d,f,rfl⟩:=cr a.own;have c1:=eY a.fW;have c2:=fu a.fW;have g:=af c1;clear a;have b:decide ((vs.length:Int)<=20)=decide (vs.length<=20):=decide_eq_decide.2 (by omega);have c:=hI b;clear b;cases lg
 ·go_enter Tryz.func104,Tryz.ntmps104
  go_wp2;go_ret;exact⟨by show Ending.returned (.bool (decide ((vs.length:Int)<=20)))=_;rw[c.o];rfl,rfl⟩
 ·go_enter Tryz.func104,Tryz.ntmps104
  go_wp2;go_ret;exact⟨rfl,rfl⟩
theorem E0(b:Nat)(x:Bool)(w:World)(hc:w.cell? ⟨b,0,none⟩=some (.bool x))(c:w.frozen? ⟨b,0,none⟩=false)(d:b<w.heap.size):
 CallsD Tryz.prog 138 #[.pointer (some ⟨b,0,none⟩)] (.panicking [{ v:=m9,recovered:=false}]) w λe a w'=>
  e=.returned (.tuple #[])/\a=.panicking [{ v:=m9,recovered:=true}]/\w'=(w.setCell ⟨b,0,none⟩ (.bool false)).alloc (.cells #[] 191):=by
 unfold m9;refine callsD_of_wpS Tryz.func138 rfl λf cs hu=> ?_;have g:∀w,(Instr.typeAssert (.iface 191 (.agg #[])) 20 191 true).run Tryz.prog w=.ok (.tuple #[.agg #[],.bool true]) w:=λw=>by kernel_rfl
 apply wpS_seq;apply wpS_region;simp[wpOpsS,go_sem,recoverD,hu,Tryz.ntmps138,Exit.thenS];refine wpS_of_wp ?_;go_wp2;simp[bodyPostS,results,Tryz.results138]
theorem Sv(p:Addr)(w:World):
 CallsD Tryz.prog 138 #[.pointer (some p)] .returning w λe a w'=>e=.returned (.tuple #[])/\a=.returning/\w'=w:=by
 refine callsD_of_wpS Tryz.func138 rfl λa cs hu=> ?_;apply wpS_seq;apply wpS_region;simp[wpOpsS,go_sem,recoverD,hu,Tryz.ntmps138,Exit.thenS];refine wpS_of_wp ?_;go_wp2;cases a;simp_all [bodyPostS,results,Tryz.results138]
structure vo (q:Nat) (w w':World):Prop where
 os:w'.os=w.os
 tape:w'.tape=w.tape
 output:w'.output=w.output
 size:w.heap.size<=w'.heap.size
 same:∀(k:Nat) (o:Obj),k≠q->w.heap[k]? =some o->w'.heap[k]? =some o
theorem vo.set(q:Nat)(w:World)(v:Value):vo q w (w.setCell ⟨q,0,none⟩ v):=⟨rfl,rfl,rfl,by simp[World.setCell],λk o a e=>(au _ _ _ _ a).trans e⟩
theorem vo.alloc{q:Nat}{w w':World}(h:vo q w w')(o:Obj):vo q w (w'.alloc o):=by
 have a:=Below.cA w' o;exact⟨a.os.trans h.os,a.tape.trans h.tape,a.output.trans h.output,ai h.size a.size,λk o c e=>by
  have b:=h.same k o c e;exact(a.block k (gE b).1).trans b⟩
theorem q9(gd:Nat)(caps:Array Value)(i j:World->Prop)(w:World)(r:∀args w,(callFunc gd args).run Tryz.prog w=.ok (.enter gd args) w)
 (a:∀V,V=w.alloc (.cells #[.bool false] 4)->Calls Tryz.prog gd caps V λe W'=>W'.heap[w.heap.size]? =some (.cells #[.bool false] 4 (0,0))/\((e=.returned (.tuple #[])/\i W')\/(e=.panicked [{ v:=m9,recovered:=false}]/\j W'))):
 Calls Tryz.prog 74 #[.func (.func gd) #[] caps] w λe w'=>(e=.returned (.bool true)/\∃b,i b/\vo w.heap.size b w')\/(e=.returned (.bool false)/\∃c,j c/\vo w.heap.size c w'):=by
 have k:=hI (a _ rfl);have s:∀(fn:Fn) (first cap:Array Value) (w:World),(Instr.makeFunc fn first cap).run Tryz.prog w=.ok (.func fn first cap) w:=λ_ _ _ _=>rfl;clear a
 go_enter_defers Tryz.func74,Tryz.ntmps74
 go_wp2_with fail
 refine k.o.mono ?_;rintro e a ⟨b,(⟨rfl,c⟩|⟨rfl,c⟩)⟩
 ·have c0:=cZ b;have f0:a.frozen? ⟨w.heap.size,0,none⟩=false:=by simp[World.frozen?,b]
  have z0:=af c0;have d:=hI b;have g:=hI c;clear b c;go_wp2;refine Go.leaves_cons (f:=138) (args:= #[.pointer (some ⟨w.heap.size,0,none⟩)]) (by simp) (by simp[go_sem]) ?_;refine(Sv _ _).mono ?_;rintro e l m ⟨rfl,rfl,rfl⟩;have cb:(a.setCell ⟨w.heap.size,0,none⟩ (.bool true)).cell? ⟨w.heap.size,0,none⟩=some (.bool true):=by
   rw[cell_of_row _ _ _ _ _ _ (cz d.o)];rfl
  refine⟨.bool true,di (p:=2) (ty:=4) rfl rfl (dz Tryz.underlying4 rfl cb),?_⟩;exact .inl ⟨rfl,a,g.o,vo.set _ _ _⟩
 ·have c0:=cZ b;have f0:a.frozen? ⟨w.heap.size,0,none⟩=false:=by simp[World.frozen?,b]
  have z0:=af c0;have d:=hI b;have g:=hI c;clear b c;go_wp2;refine Go.leaves_cons (f:=138) (args:= #[.pointer (some ⟨w.heap.size,0,none⟩)]) (by simp) (by simp[go_sem]) ?_;refine(E0 w.heap.size false a c0 f0 z0).mono ?_;rintro e l m ⟨rfl,rfl,rfl⟩;have n:=cz (o:=0) (v:=.bool false) d.o;have q:=Below.cA (a.setCell ⟨w.heap.size,0,none⟩ (.bool false)) (.cells #[] 191);have cb:((a.setCell ⟨w.heap.size,0,none⟩ (.bool false)).alloc (.cells #[] 191)).cell? ⟨w.heap.size,0,none⟩=some (.bool false):=by
   rw[cell_of_row _ _ _ _ _ _ (cY q n)];rfl
  refine⟨.bool false,di (p:=2) (ty:=4) rfl rfl (dz Tryz.underlying4 rfl cb),?_⟩;exact .inr ⟨rfl,a,g.o,(vo.set _ _ _).alloc _⟩
def Fo.nr:Fo->Prop
 | .nil=>True
 | .cons a _ k r=>(a=1\/a=2\/a=3\/a=4)/\k.nr/\r.nr
theorem Fo.Ol:∀{F:Fo} {i:Nat},F.nr->i<F.len->(F.at i).one.nr
 | .nil,_,_,h=>ay h (ax _)
 | .cons a n k r,0,h,_=>⟨h.1,h.2.1,trivial⟩
 | .cons a n k r,i+1,h,hi=>Fo.Ol (F:=r) (i:=i) h.2.2 (by unfold Fo.len at hi;omega)
theorem Fo.E1{x:Int}:∀{F:Fo} {i:Nat},i<F.len->(F.at i).one.has x->F.has x
 | .nil,_,h,_=>ay h (ax _)
 | .cons a n k r,0,_,h=>by
  have h:Fo.has (.cons a n k .nil) x:=h;unfold Fo.has at h |-
  split at h
  ·rename_i e;rw[aq e];exact h.imp id λh=>h.elim
  ·rename_i e;rw[ah e];exact h.imp id λh=>h.elim
 | .cons a n k r,i+1,hi,h=>by
  have:=Fo.E1 (F:=r) (i:=i) (by unfold Fo.len at hi;omega) h;unfold Fo.has
  split<;>exact .inr this
section
variable {V:Type} {vf:Gr->V->Int->(Gr×V)×Nat}
theorem p8(a n:Int)(k r:Fo)(g:Gr)(v:V):dO vf (.cons a n k r) g v=if a=1 then((dO vf r (vf g v n).1.1 (vf g v n).1.2).1,(vf g v n).2::(dO vf r (vf g v n).1.1 (vf g v n).1.2).2)
 else((dO vf r ((dO vf k g v).1.1++[⟨a,n,(dO vf k g v).2,none⟩]) (dO vf k g v).1.2).1,(dO vf k g v).1.1.length::(dO vf r ((dO vf k g v).1.1++[⟨a,n,(dO vf k g v).2,none⟩]) (dO vf k g v).1.2).2):=rfl
theorem Dp(g:Gr)(v:V):dO vf .nil g v=((g,v),[]):=rfl
theorem QF{a n:Int}(k:Fo)(g:Gr)(v:V)(h:a=1):dO vf (Nd.one ⟨a,n,k⟩) g v=((vf g v n).1,[(vf g v n).2]):=by
 unfold Nd.one;rw[p8,aq h,Dp]
theorem LG{a n:Int}(k:Fo)(g:Gr)(v:V)(h:a≠1):dO vf (Nd.one ⟨a,n,k⟩) g v=(((dO vf k g v).1.1++[⟨a,n,(dO vf k g v).2,none⟩],(dO vf k g v).1.2),[(dO vf k g v).1.1.length]):=by
 unfold Nd.one;rw[p8,ah h,Dp]
theorem LH(a n:Int)(k r:Fo)(g:Gr)(v:V):dO vf (.cons a n k r) g v=((dO vf r (dO vf (Nd.one ⟨a,n,k⟩) g v).1.1 (dO vf (Nd.one ⟨a,n,k⟩) g v).1.2).1,(dO vf (Nd.one ⟨a,n,k⟩) g v).2.headD 0::(dO vf r (dO vf (Nd.one ⟨a,n,k⟩) g v).1.1 (dO vf (Nd.one ⟨a,n,k⟩) g v).1.2).2):=by
 rw[p8];by_cases e:a=1
 ·rw[aq e,QF k g v e];rfl
 ·rw[ah e,LG k g v e];rfl
theorem mC(b:∀g v x,(vf g v x).1.1.length<=g.length+1):∀(F:Fo) (g:Gr) (v:V),(dO vf F g v).1.1.length<=g.length+F.size
 | .nil,g,v=>lR
 | .cons a n k r,g,v=>by
  rw[p8]
  split
  ·have d:=b g v n;have c:=mC b r (vf g v n).1.1 (vf g v n).1.2;show(dO vf r (vf g v n).1.1 (vf g v n).1.2).1.1.length<=g.length+(1+k.size+r.size);omega
  ·have d:=mC b k g v;have c:=mC b r ((dO vf k g v).1.1++[⟨a,n,(dO vf k g v).2,none⟩]) (dO vf k g v).1.2;rw[dS]at c;show(dO vf r ((dO vf k g v).1.1++[⟨a,n,(dO vf k g v).2,none⟩]) (dO vf k g v).1.2).1.1.length<=g.length+(1+k.size+r.size);omega
end
def vp:Array MapEntry:= #[⟨.int .i64 2,.int .i64 1,0⟩,⟨.int .i64 3,.int .i64 2,1⟩,⟨.int .i64 4,.int .i64 3,2⟩]
theorem aaD(V:World){a:Int}(h:a=2\/a=3\/a=4):(Instr.lookup 189 (.map (some V.heap.size)) (.int .i64 a) false).run Tryz.prog (V.alloc (.map vp 3))=.ok (.int .i64 (xm a)) (V.alloc (.map vp 3)):=by
 rcases h with rfl|rfl|rfl
 ·exact gJ V vp 3 _ _ 0 Tryz.underlying189 rfl (λ_=>by kernel_rfl) (λ_=>by kernel_rfl)
 ·exact gJ V vp 3 _ _ 1 Tryz.underlying189 rfl (λ_=>by kernel_rfl) (λ_=>by kernel_rfl)
 ·exact gJ V vp 3 _ _ 2 Tryz.underlying189 rfl (λ_=>by kernel_rfl) (λ_=>by kernel_rfl)
theorem m_.weaken{E E':Nat->Prop}{x:Nat}{r r':Option Nat}{w w':World}(h:m_ E x r r' w w')(a:∀q,q<w.heap.size->E q->E' q):m_ E' x r r' w w':=
 ⟨h.os,h.tape,h.output,h.size,λq o e b c d=>h.same q o e b c λf=>d (a q (gE e).1 f),h.new⟩
theorem QG{α:Type}{P:Program}{c:Code}{Q:Exit->Act->World->Prop}{a:Act}{w:World}(A:α->Act)(R:α->World->Prop)
 (h:Code.wp P c (nN λ_ b W'=>∃x,b=A x/\R x W') a w) (d:∀x W',R x W'->Q .normal (A x) W'):Code.wp P c Q a w:=
 Code.wp_mono (λe b w' h=>by
  cases e<;>first|exact h.elim|skip
  obtain⟨x,rfl,f⟩:=h;exact d x w' f) h
def yA:Array MapEntry:= #[⟨.int .i64 1,.int .i64 2,0⟩,⟨.int .i64 2,.int .i64 3,1⟩,⟨.int .i64 3,.int .i64 4,2⟩]
theorem aaE(V:World){a:Int}(h:a=2\/a=3\/a=4):(Instr.lookup 195 (.map (some V.heap.size)) (.int .i64 (xm a)) false).run Tryz.prog (V.alloc (.map yA 3))=.ok (.int .i64 a) (V.alloc (.map yA 3)):=by
 rcases h with rfl|rfl|rfl
 ·exact gJ V yA 3 _ _ 0 Tryz.underlying195 rfl (λ_=>by kernel_rfl) (λ_=>by kernel_rfl)
 ·exact gJ V yA 3 _ _ 1 Tryz.underlying195 rfl (λ_=>by kernel_rfl) (λ_=>by kernel_rfl)
 ·exact gJ V yA 3 _ _ 2 Tryz.underlying195 rfl (λ_=>by kernel_rfl) (λ_=>by kernel_rfl)
structure nf (w:World) (base x y ql qs qf:Nat) (g:Gr) (r:Option Nat) (gv:Value) (ps:List Value) (left:Int) (vs:List Int) (rv:Option Nat) (vv:Value) (lg:Bool):Prop where
 gr:ed jU w base x g r gv ps
 sc:oS w 0 y x vs rv vv lg
 bl:w.heap[ql]? =some (.cells #[.int .i64 left] 3 (0,0))
 bs:w.heap[qs]? =some (.cells #[.pointer (some ⟨y,0,none⟩)] 117 (0,0))
 bf:w.heap[qf]? =some (.cells #[.func (.func 140) #[] #[.pointer (some ⟨ql,0,none⟩),.pointer (some ⟨qs,0,none⟩),.pointer (some ⟨qf,0,none⟩)]] 70 (0,0))
 sl:Sep ps (some ql)
 sv:Sep ps rv
 lv:rv≠some ql
section
variable {w w':World} {base x y ql qs qf:Nat} {g:Gr} {r rv qN:Option Nat} {gv vv yz:Value} {ps:List Value} {left gT:Int} {vs o_:List Int} {lg rC:Bool}
theorem nf.ne(h:nf w base x y ql qs qf g r gv ps left vs rv vv lg):y≠ql/\qs≠ql/\qf≠ql/\qs≠y/\qf≠y/\x≠ql/\x≠y/\(∀q,r=some q->q≠ql/\q≠y)/\(∀q,rv=some q->q≠y/\q≠qs/\q≠qf/\q≠x/\some q≠r):=by
 have key:∀{a b:Nat} {c d:Array Value} {s u:TypeId},w.heap[a]? =some (.cells c s (0,0))->w.heap[b]? =some (.cells d u (0,0))->s≠u->a≠b:=λ{a b c d s u} k f eC e=>by
  subst e;rw[k]at f;simp only[aL,Obj.cells.injEq]at f;exact eC f.2.1
 refine⟨key h.sc.fW h.bl (by decide),key h.bs h.bl (by decide),key h.bf h.bl (by decide),key h.bs h.sc.fW (by decide),key h.bf h.sc.fW (by decide),key h.gr.fW h.bl (by decide),key h.gr.fW h.sc.fW (by decide),λq i=> ?_,λq i=> ?_⟩
 ·obtain⟨cur,hc,_⟩:=h.gr.ey i;exact⟨key hc h.bl (by decide),key hc h.sc.fW (by decide)⟩
 ·obtain⟨_,cur,hc⟩:=h.sc.lt.2 q i;refine⟨key hc h.sc.fW (by decide),key hc h.bs (by decide),key hc h.bf (by decide),key hc h.gr.fW (by decide),λe=> ?_⟩;obtain⟨l,j,_⟩:=h.gr.ey e.symm;exact key hc j (by decide) rfl
theorem nf.Cb{E:Nat->Prop}(h:nf w base x y ql qs qf g r gv ps left vs rv vv lg)(z:∀q,E q->q=ql\/∀o,w.heap[q]? =some o->¬∃cur t,o=.cells cur t (0,0)/\(t=110\/t=193\/t=117\/t=70\/t=3))
 (hm:m_ E y rv qN w w') (hi:∀(b:Nat) (cur:Array Value) (f:Nat×Nat),w.heap[b]? =some (Obj.cells cur 3 f)->b≠ql->¬E b) (A:oS w' 0 y x o_ qN yz rC) (B:w'.heap[ql]? =some (.cells #[.int .i64 gT] 3 (0,0))):nf w' base x y ql qs qf g r gv ps gT o_ qN yz rC:=by
 obtain⟨R,C,D,F,G,H,n7,n8,k⟩:=h.ne;have c:∀{q:Nat} {cur:Array Value} {t:TypeId},w.heap[q]? =some (.cells cur t (0,0))->q≠ql->(t=110\/t=193\/t=117\/t=70\/t=3)->¬E q:=λ{q cur t} l eC I J=>by
  rcases z q J with e|e
  ·exact eC e
  ·exact e _ l ⟨cur,t,rfl,I⟩
 have K:ed jU w' base x g r gv ps:=by
  refine⟨?_,h.gr.row,⟨h.gr.own.1,?_⟩,h.gr.len,λi v=> ?_,h.gr.base⟩
  ·exact hm.same _ _ h.gr.fW n7 (λe=>(k x e.symm).2.2.2.1 rfl) (c h.gr.fW H (.inl rfl))
  ·have j:=h.gr.row;rcases h.gr.own.2 with n|⟨g',cap,cur,rfl,d,m,rest⟩
   ·exact .inl n
   ·refine .inr ⟨g',cap,cur,rfl,d,hm.same _ _ m (n8 g' j.symm).2 (λe=>(k g' e.symm).2.2.2.2 j) (c m (n8 g' j.symm).1 (.inr (.inl rfl))),rest⟩
  ·obtain⟨a,cap,m,n,L,M,j⟩:=h.gr.parts i v;refine⟨a,cap,m,n,L,M,λp=> ?_⟩;obtain⟨b,off,cur,f,s,d,hc⟩:=j p;have u:i<ps.length:=by rw[h.gr.len];exact v
   rw[ae u,bK]at m;have N:=h.sl _ (aR u) ⟨b,off,none⟩ _ _ (m.trans (by rw[s])) p;have O:=h.sv _ (aR u) ⟨b,off,none⟩ _ _ (m.trans (by rw[s])) p;have P:b≠y:=λe=>by
    subst e;rw[h.sc.fW]at d;simp only[aL,Obj.cells.injEq]at d;exact ay d.2.1 (by decide)
   have Q:b≠ql:=λe=>N (by rw[e]);exact⟨b,off,cur,f,s,hm.same _ _ d P O (hi b cur f d Q),hc⟩
 refine⟨K,A,B,hm.same _ _ h.bs F (λe=>(k qs e.symm).2.1 rfl) (c h.bs C (.inr (.inr (.inl rfl)))),hm.same _ _ h.bf G (λe=>(k qf e.symm).2.2.1 rfl) (c h.bf D (.inr (.inr (.inr (.inl rfl))))),h.sl,?_,?_⟩
 ·rcases hm.new with e|⟨q,e,l⟩
  ·rw[e];exact h.sv
  ·rw[e];exact Sep.Ca h.gr (λd m=>by cases m;exact l)
 ·rcases hm.new with e|⟨q,e,l⟩
  ·rw[e];exact h.lv
  ·rw[e];intro n;cases n;have:=(gE h.bl).1;omega
theorem nf.below(h:nf w base x y ql qs qf g r gv ps left vs rv vv lg)(a:Below w.heap.size w w'):nf w' base x y ql qs qf g r gv ps left vs rv vv lg:=
 h.Cb (E:=λ_=>False) (λ_ h=>h.elim) (m_.cB _ y rv a) (λ_ _ _ _ _ h=>h) (h.sc.below a) ((a.block ql (gE h.bl).1).trans h.bl)
theorem nf.set(h:nf w base x y ql qs qf g r gv ps left vs rv vv lg)(gT:Int):nf (w.setCell ⟨ql,0,none⟩ (.int .i64 gT)) base x y ql qs qf g r gv ps gT vs rv vv lg/\m_ (λq=>q=ql) y rv rv w (w.setCell ⟨ql,0,none⟩ (.int .i64 gT)):=by
 have hm:m_ (λq=>q=ql) y rv rv w (w.setCell ⟨ql,0,none⟩ (.int .i64 gT)):=⟨rfl,rfl,rfl,by simp[World.setCell],λq o e _ _ a=>(au _ _ _ _ a).trans e,.inl rfl⟩;refine⟨h.Cb (λq a=>.inl a) hm (λb cur f _ d=>d) (h.sc.keep (λo c=>(au _ _ _ _ h.ne.1).trans c) (λq o a c=>(au _ _ _ _ (λe=>h.lv (by rw[a];exact congrArg some e))).trans c)) ?_,hm⟩;rw[cz h.bl];rfl
theorem m_.but{E:Nat->Prop}{q:Nat}{W W':World}(h:m_ E y rv qN w W)(a:vo q W W')(f:w.heap.size<=q):m_ E y rv qN w W':=by
 refine⟨a.os.trans h.os,a.tape.trans h.tape,a.output.trans h.output,ai h.size a.size,λk o e b c d=>a.same k o (λg=> ?_) (h.same k o e b c d),h.new⟩;have:=(gE e).1;omega
theorem nf.but(h:nf w base x y ql qs qf g r gv ps left vs rv vv lg){q:Nat}{c:Array Value}(j:w.heap[q]? =some (.cells c 26 (0,0)))(a:vo q w w'):nf w' base x y ql qs qf g r gv ps left vs rv vv lg:=by
 have key:∀{b:Nat} {d:Array Value} {u:TypeId},w.heap[b]? =some (.cells d u (0,0))->u≠26->b≠q:=λ{b d u} h2 eC e=>by
  subst e;rw[j]at h2;exact anz
 refine h.Cb (E:=λk=>k=q) (λk i=>.inr λo G=> ?_) ⟨a.os,a.tape,a.output,a.size,λk o e _ _ i=>a.same k o i e,.inl rfl⟩ (λb cur f l _ e=> ?_) (h.sc.keep (λo G=>a.same _ _ (key h.sc.fW (by decide)) G) (λk o i G=> ?_)) (a.same _ _ (key h.bl (by decide)) h.bl)
 ·rintro⟨cur,t,rfl,m⟩;subst i;rw[j]at G;simp only[aL,Obj.cells.injEq]at G;rw[<-G.2.1]at m
  revert m
  decide
 ·subst e;rw[j]at l;simp only[aL,Obj.cells.injEq]at l;exact ay l.2.1 (by decide)
 ·obtain⟨_,cur,hc⟩:=h.sc.lt.2 k i;exact a.same _ _ (key hc (by decide)) G
theorem nf.px(h:nf w base x y ql qs qf g r gv ps left vs rv vv lg):nf (w.setCell ⟨y,2,none⟩ (.bool true)) base x y ql qs qf g r gv ps left vs rv vv true/\m_ (λq=>q=ql) y rv rv w (w.setCell ⟨y,2,none⟩ (.bool true)):=by
 have hm:m_ (λq=>q=ql) y rv rv w (w.setCell ⟨y,2,none⟩ (.bool true)):=⟨rfl,rfl,rfl,by simp[World.setCell],λq o e a _ _=>(au _ _ _ _ a).trans e,.inl rfl⟩;refine⟨h.Cb (λq a=>.inl a) hm (λb cur f _ c=>c) ⟨by rw[cz h.sc.fW];rfl,h.sc.row,mi h.sc.own h.sc.fW (by decide)⟩ ((au _ _ _ _ (λe=>h.ne.1 e.symm)).trans h.bl),hm⟩
end
theorem m_.akp{E:Nat->Prop}{x q:Nat}{r r':Option Nat}{w W W':World}(h:m_ E x r r' w W)(a:vo q W W')(c:E q):m_ E x r r' w W':=
 ⟨a.os.trans h.os,a.tape.trans h.tape,a.output.trans h.output,ai h.size a.size,λk o e d f b=>a.same k o (λg=>b (g ▸ c)) (h.same k o e d f b),h.new⟩
theorem vq{w:World}{base sz n q:Nat}{t:TypeId}{v:Value}{xs:List Value}(h:w.ownsRow base t sz v n xs)(a:v.ownBlock=some q):∃cur,w.heap[q]? =some (.cells cur t (0,0)):=by
 rcases h.2 with⟨rfl,_⟩|⟨g,cap,cur,rfl,_,b,_⟩
 ·cases a
 ·cases a;exact⟨cur,b⟩
theorem nf.grown{w w':World}{base x y ql qs qf:Nat}{g:Gr}{r rv:Option Nat}{gv vv:Value}{ps:List Value}{left:Int}{vs:List Int}{lg:Bool}(h:nf w base x y ql qs qf g r gv ps left vs rv vv lg){b0 sz n:Nat}{v:Value}{xs:List Value}(i:w.ownsRow b0 26 sz v n xs)(a:w.grownBy w' v.ownBlock):nf w' base x y ql qs qf g r gv ps left vs rv vv lg:=by
 have key:∀{b:Nat} {d:Array Value} {u:TypeId} {f:Nat×Nat},w.heap[b]? =some (.cells d u f)->u≠26->some b≠v.ownBlock:=λ{b d u f} h2 eC e=>by
  obtain⟨cur,hc⟩:=vq i e.symm;rw[hc]at h2;exact anz
 refine h.Cb (E:=λk=>some k=v.ownBlock) (λk c=>.inr λo G=> ?_) ⟨a.os,a.tape,a.output,a.size,λk o e _ _ c=>(a.block k (gE e).1 c).trans e,.inl rfl⟩ (λb cur f j _ e=>key j (by decide) e) (h.sc.keep (λo G=>(a.block y (gE G).1 (key h.sc.fW (by decide))).trans G) (λk o c G=> ?_)) ((a.block ql (gE h.bl).1 (key h.bl (by decide))).trans h.bl)
 ·rintro⟨cur,t,rfl,j⟩;obtain⟨l,hc⟩:=vq i c.symm;rw[hc]at G;simp only[aL,Obj.cells.injEq]at G;rw[<-G.2.1]at j
  revert j
  decide
 ·obtain⟨_,cur,hc⟩:=h.sc.lt.2 k c;exact(a.block k (gE G).1 (key hc (by decide))).trans G
theorem Tryz.QH:(Tryz.prog.info? 26).map (λi=>(i.zero,i.size,i.bytes))=some (some (.agg #[.int .i64 0,.int .i64 0,.slice none 0 0]),3,40):=by kernel_rfl
theorem vo.ahF{w:World}{q o:Nat}{v:Value}:vo q w (w.setCell ⟨q,o,none⟩ v):=⟨rfl,rfl,rfl,by simp[World.setCell],λ_ _ a e=>(au _ _ _ _ a).trans e⟩
theorem LJ{W:World}{q:Nat}{a b c:Value}{t:TypeId}(h:W.heap[q]? =some (.cells #[a,b,c] t (0,0)))(v0 v1 v2:Value):
 vo q W (((W.setCell ⟨q,0,none⟩ v0).setCell ⟨q,1,none⟩ v1).setCell ⟨q,2,none⟩ v2)/\(((W.setCell ⟨q,0,none⟩ v0).setCell ⟨q,1,none⟩ v1).setCell ⟨q,2,none⟩ v2).heap[q]? =some (.cells #[v0,v1,v2] t (0,0)):=by
 have f:=cz (o:=0) (v:=v0) h;have g:=cz (o:=1) (v:=v1) f;have i:=cz (o:=2) (v:=v2) g;refine⟨⟨rfl,rfl,rfl,by simp[World.setCell],λk o d e=> ?_⟩,i⟩;exact(au _ _ _ _ d).trans ((au _ _ _ _ d).trans ((au _ _ _ _ d).trans e))
def RdP(t:Nat->Nd)(base x y ql qs qf:Nat)(g:Gr)(r:Option Nat)(gv:Value)(ps:List Value)(left:Int)(vs:List Int)(rv:Option Nat)(lg:Bool)(n:Nat)(w:World)(e:Ending)(w':World):Prop:=
 ∃(T:Nd) (kv:Value) (gT:Int) (o_:List Int) (qN:Option Nat) (yz:Value) (rC:Bool),e=.returned (.agg #[.int .i64 T.a,.int .i64 T.n,kv])/\iJ (nO 26 w.heap.size) w' kv T.k/\
  nf w' base x y ql qs qf g r gv ps gT o_ qN yz rC/\m_ (λq=>q=ql) y rv qN w w'/\vn (t n) left vs lg T gT o_ rC
theorem Wu{t:Nat->Nd}{base x y ql qs qf:Nat}{g:Gr}{r:Option Nat}{gv:Value}{ps:List Value}(U:Good g)(Dn:∀i,i<g.length->((aX g i).sort=0\/(aX g i).sort=2\/(aX g i).sort=3\/(aX g i).sort=4)/\(aX g i).parts.length<=1000000)(ht:Trees g t):∀(k n:Nat) (w:World) (left:Int) (vs:List Int) (rv:Option Nat) (vv:Value) (lg:Bool),
 (t n).size<=k->n<g.length->nf w base x y ql qs qf g r gv ps left vs rv vv lg->-1152921504606846976<=left->left<=20->vs.length+left.toNat<=1000000000->
 Calls Tryz.prog 140 #[.int .i64 (n:Nat),.pointer (some ⟨ql,0,none⟩),.pointer (some ⟨qs,0,none⟩),.pointer (some ⟨qf,0,none⟩)] w (RdP t base x y ql qs qf g r gv ps left vs rv lg n w)
 |0,n,_,_,_,_,_,_,h,_,_,_,_,_=>ay h (by unfold Nd.size;omega)
 |k+1,n,w,left,vs,rv,vv,lg,hk,hn,hm,Wv,hhi,ZH=>by
  have F:=cZ hm.bl;have S:w.frozen? ⟨ql,0,none⟩=false:=by simp[World.frozen?,hm.bl]
  have cs:=cZ hm.bs;have T:=af F;have D:=af cs;have c2:=fu hm.sc.fW;have fy:w.frozen? ⟨y,2,none⟩=false:=by simp[World.frozen?,hm.sc.fW]
  have s:=af c2;have M:IntKind.i64.wrap (left-1)=left-1:=IntWalk.i64_in _ (by omega);obtain⟨C,G⟩:=hm.set (left-1);have m:=Below.cA (w.setCell ⟨ql,0,none⟩ (.int .i64 (left-1))) (.cells #[.int .i64 0,.int .i64 0,.slice none 0 0] 26);obtain⟨A,l,E,H⟩:=h_4 (C.below m) (G.below m) (a_ (w.setCell ⟨ql,0,none⟩ (.int .i64 (left-1))) (.cells #[.int .i64 0,.int .i64 0,.slice none 0 0] 26)) hm;clear hm C G m c2 fy s
  go_enter Tryz.func140,Tryz.ntmps140
  go_upto_region 2 with fail
  refine eR (λW=>nf W base x y ql qs qf g r gv ps (left-1) vs rv vv lg/\m_ (λq=>q=ql) y rv rv w W/\W.heap[w.heap.size]? =some (.cells #[.int .i64 0,.int .i64 0,.slice none 0 0] 26 (0,0))/\w.heap.size+1=W.heap.size) ⟨A.o,l.o,by have:=E.o;simpa [World.setCell] using this,by simp[World.setCell]⟩ ?_;rintro W ⟨s,v1,I,s1⟩;have dl:=cZ s.bl;have ds:=cZ s.bs;have d0:=cZ s.sc.fW;have d2:=fu s.sc.fW;have fy:W.frozen? ⟨y,2,none⟩=false:=by simp[World.frozen?,s.sc.fW]
  have y0:=af dl;have y1:=af ds;have y2:=af d0;clear F S cs T D M A l E;by_cases h0:left<=0
  ·have J:left-1<0:=by omega
   have A:=cZ I;have F:=eY I;have S:=fu I;have e3:∀j,W.frozen? ⟨w.heap.size,j,none⟩=false:=λj=>by simp[World.frozen?,I]
   have e4:¬y=w.heap.size:=by have:=H.o.sc.lt.1;omega
   have M:¬w.heap.size=y:=λe=>e4 e.symm;obtain⟨M1,V1,K0,H0⟩:=h_4 s v1 I h0;clear s v1 I h0;have G:=hI M1.o.px;have X:=hI ((au W ⟨y,2,none⟩ (.bool true) w.heap.size M).trans K0.o);go_wp2;refine uO (λW'=>vo w.heap.size (W.setCell ⟨y,2,none⟩ (.bool true)) W'/\W'.heap[w.heap.size]? =some (.cells #[.int .i64 (default:Nd).a,.int .i64 (default:Nd).n,Value.slice none 0 0] 26 (0,0))) (LJ X.o _ _ _) ?_;rintro W' ⟨Z,N⟩;have r0:=cZ N;have r1:=eY N;have r2:=fu N;refine bodyPost_ret (v:=.agg #[.int .i64 (default:Nd).a,.int .i64 (default:Nd).n,.slice none 0 0]) (by simp[results,Tryz.results140,go_sem,r0,r1,r2]) rfl ?_;exact⟨default,_,left-1,vs,rv,vv,true,rfl,iJ.nil _ _,G.o.1.but X.o Z,(V1.o.trans G.o.2).but Z lR,vn.o H0.o⟩
  ·have J:¬left-1<0:=by omega
   obtain⟨M1,V1,K0,H0⟩:=h_4 s v1 I h0;have M:Hd (∀V,Below W.heap.size W V->Calls Tryz.prog 78 #[.pointer (some ⟨x,0,none⟩),.int .i64 (n:Nat)] V λe w'=>e=.returned (.int .i64 (find g n:Nat))/\w'=V):=hI λV hV=>ph (M1.o.gr.below hV) U.wf hn;have K:=U.wf.il hn;have On:=hI (ht.find n (find g n) (AV U.wf hn).symm);have G:=AV U.wf hn;have B:=hI G;generalize find g n=fn at M K On B;obtain⟨rb,cap,p,pc,l,m,jc,_,RF,cx,_,F,s1,s2,S,_,sp,A⟩:=s.gr.cells K;rw[l]at cx;have hfI:(fn:Int)<(g.length:Int):=by omega
   have T:=af cx;unfold maxLen at RF;have HPN:=hI A;clear s v1 I h0 sp l m G A d2 fy;go_wp2;apply QG (R:=fun(bx:Nat) W'=>Below W.heap.size W W'/\W.heap.size<=bx/\W'.heap[bx]? =some (.cells #[.int .i64 (jU.sz (aX g fn).sort),.int .i64 (aX g fn).n,.slice p (aX g fn).parts.length pc,.int .i64 (NH (aX g fn).to)] 193 (0,0)))
   case h=>
    go_region_held3 (λV=>V.cell? ⟨qs,0,none⟩=some (.pointer (some ⟨y,0,none⟩))/\V.cell? ⟨y,0,none⟩=some (.pointer (some ⟨x,0,none⟩))/\V.cell? ⟨x,0,none⟩=some (.slice (some ⟨rb,0,none⟩) g.length cap)/\V.cell? ⟨rb,fn*4,none⟩=some (.int .i64 (jU.sz (aX g fn).sort))/\V.cell? ⟨rb,fn*4+1,none⟩=some (.int .i64 (aX g fn).n)/\V.cell? ⟨rb,fn*4+2,none⟩=some (.slice p (aX g fn).parts.length pc)/\V.cell? ⟨rb,fn*4+3,none⟩=some (.int .i64 (NH (aX g fn).to))) (go_keep)
     (first|(go_at_call 78;refine(M.o _ ?_).mono ?_;(first|exact Below.ia bR|exact Below.ia (Below.cA _ _));rintro e w' ⟨rfl,A⟩;rw[A];clear A w'))
    all_goals dsimp only[nN]
    all_goals
     refine⟨W.heap.size,?_,Below.ia (Below.cA _ _),lR,a_ _ _⟩;generalize W.heap.size=bx;exact rfl
   rintro bx z ⟨G,Uw,l⟩;have C:=M1.o.below G;have e3:=cZ C.bs;have e4:=cZ C.sc.fW;have x0:=cZ l;have x1:=eY l;have x2:=fu l;have zx3:=af x0;have zs3:=af e3;have zy3:=af e4;have Ng:w.heap.size<z.heap.size:=by have:=G.size;omega
   have m:=bQ K0.o G (by omega);obtain⟨KX,L,O,V3⟩:=h_4 l C m (V1.o.below G);have Q:Hd (∀V,Below z.heap.size z V->Calls Tryz.prog 78 #[.pointer (some ⟨x,0,none⟩),.int .i64 (n:Nat)] V λe w'=>e=.returned (.int .i64 (fn:Nat))/\w'=V):=hI λV hV=>M.o V (ag G hV lR);have Oa:=(Dn fn K).1;have qz:=(Dn fn K).2;have QI:=hI (Wu (base:=base) (x:=x) (y:=y) (ql:=ql) (qs:=qs) (qf:=qf) (r:=r) (gv:=gv) (ps:=ps) U Dn ht k);clear G l C m ds d0 cx F s1 s2 S T M dl y0 y1 y2;by_cases ho:(aX g fn).sort=0
   ·have q0:(jU.sz (aX g fn).sort==0)=true:=by rw[ho];decide
    have C:Hd (t n=⟨1,(fn:Nat),.nil⟩):=hI (by
     have hop:dQ (aX g (find g fn))=true:=by rw[B.o];unfold dQ;rw[ho];rfl
     rw[On.o,ht.free fn K hop,B.o])
    have G:Hd (∀V,Below z.heap.size z V->Calls Tryz.prog 141 #[.pointer (some ⟨y,0,none⟩),.int .i64 (fn:Nat)] V λe w'=>e=.returned (.int .i64 (qF vs (fn:Nat)))/\∃qN yz,oS w' 0 y x (iw vs (fn:Nat)) qN yz lg/\m_ (λq=>q=ql) y rv qN z w'/\
     w'.cell? ⟨qs,0,none⟩=some (.pointer (some ⟨y,0,none⟩))/\w'.cell? ⟨y,0,none⟩=some (.pointer (some ⟨x,0,none⟩))/\w'.heap[w.heap.size]? =some (.cells #[.int .i64 0,.int .i64 0,.slice none 0 0] 26 (0,0))/\w'.heap[ql]? =some (.cells #[.int .i64 (left-1)] 3 (0,0))):=hI λV hV=>
     (Oj (L.o.sc.below hV) (aw _) (by omega) _).mono λe w' ⟨J,qN,yz,h2,M⟩=>by
      have l:=(mR.cB y rv hV).trans M;obtain⟨n1,n2,n3,n4,n5,n6,n7,n8,n9⟩:=L.o.ne;have m:=l.same _ _ L.o.bs n4 (λe=>(n9 _ e.symm).2.1 rfl);have F:=l.same _ _ O.o (by have:=H.o.sc.lt.1;omega) (λe=>by have:=(H.o.sc.lt.2 _ e.symm).1;omega);have S:=l.same _ _ L.o.bl (λe=>n1 e.symm) (λe=>L.o.lv e.symm);exact⟨J,qN,yz,h2,l.toX _,by rw[cell_of_row _ _ _ _ _ _ m];rfl,by rw[cell_of_row _ _ _ _ _ _ h2.fW];rfl,F,S⟩
    have g1:¬qs=w.heap.size:=by have:=(gE H.o.bs).1;omega
    have g2:¬y=w.heap.size:=by have:=H.o.sc.lt.1;omega
    have g3:¬w.heap.size=qs:=λe=>g1 e.symm;have g4:¬w.heap.size=y:=λe=>g2 e.symm;clear Oa ho;go_wp2;apply QG (R:=fun(_:Unit) W'=>∃qN yz,nf W' base x y ql qs qf g r gv ps (left-1) (iw vs (fn:Nat)) qN yz lg/\m_ (λq=>q=ql) y rv qN w W'/\W'.heap[w.heap.size]? =some (.cells #[.int .i64 1,.int .i64 (qF vs (fn:Nat)),.slice none 0 0] 26 (0,0)))
    case h=>
     go_region_held3 (λV=>V.cell? ⟨qs,0,none⟩=some (.pointer (some ⟨y,0,none⟩))/\V.cell? ⟨y,0,none⟩=some (.pointer (some ⟨x,0,none⟩))) (go_keep)
      (first|(go_at_call 78;refine(Q.o _ ?_).mono ?_;(exact Below.ia bR);rintro e w' ⟨rfl,A⟩;rw[A];clear A w')|(go_at_call 141;refine(G.o _ ?_).mono ?_;(exact Below.ia bR);rintro e M ⟨rfl,E,F,D,l,a1,a2,a3,a4⟩;have b0:M.cell? ⟨w.heap.size,0,none⟩=some (.int .i64 0):=(by rw[cell_of_row _ _ _ _ _ _ a3];rfl);have b1:M.cell? ⟨w.heap.size,1,none⟩=some (.int .i64 0):=(by rw[cell_of_row _ _ _ _ _ _ a3];rfl);have b2:M.cell? ⟨w.heap.size,2,none⟩=some (.slice none 0 0):=(by rw[cell_of_row _ _ _ _ _ _ a3];rfl);have b3:∀j,M.frozen? ⟨w.heap.size,j,none⟩=false:=(by intro j;simp[World.frozen?,a3]);have S:=hI a3;have T:=hI a4;have iV:=hI D;have m:=hI l;clear a3 a4 D l))
     all_goals dsimp only[nN]
     all_goals
      have A:=LJ S.o (.int .i64 1) (.int .i64 (qF vs (fn:Nat))) (.slice none 0 0);have M:=L.o.Cb (λq D=>.inl D) m.o (λ_ _ _ _ l=>l) iV.o T.o;refine⟨(),?_,E,F,M.but S.o A.1,(V3.o.trans m.o).but A.1 lR,A.2⟩;generalize ()=uu;exact rfl
    rintro _ T ⟨M,m,m5,v5,A⟩;have r0:=cZ A;have r1:=eY A;have r2:=fu A;have F:=hI m5;have S:=hI v5;clear m5 v5 A G Q x0 x1 x2 e3 e4;go_wp2;refine bodyPost_ret (v:=.agg #[.int .i64 1,.int .i64 (qF vs (fn:Nat)),.slice none 0 0]) (by simp[results,Tryz.results140,go_sem,r0,r1,r2]) rfl ?_;exact⟨⟨1,qF vs (fn:Nat),.nil⟩,_,left-1,iw vs (fn:Nat),M,m,lg,rfl,iJ.nil _ _,F.o,S.o,by rw[C.o];exact vn.var (by have:=H0.o;omega)⟩
   ·have M:(aX g fn).sort=2\/(aX g fn).sort=3\/(aX g fn).sort=4:=Oa.resolve_left ho;have Na:(aX g fn).sort≠1:=by omega
    have q0:(jU.sz (aX g fn).sort==0)=false:=by rcases M with e|e|e<;>rw[e]<;>decide
    have C:Hd (t n=⟨(aX g fn).sort,(aX g fn).n,Fo.of ((aX g fn).parts.map t)⟩):=hI (by
     have hop:dQ (aX g (find g fn))=false:=by rw[B.o];unfold dQ;simpa using ho
     rw[On.o,ht.node fn K hop,B.o])
    obtain⟨S,T⟩:=nH2 z (.map yA 3) (.cells #[.int .i64 (aX g fn).sort,.int .i64 (aX g fn).n,.slice none 0 0] 26);have G:=hI S;have X:=hI T.2;have CT:= @run_makeMap Tryz.prog;have m0:=gI (P:=Tryz.prog) z (t:=195) (#[]:Array MapEntry) 0 (.int .i64 1) (.int .i64 2) Tryz.underlying195 (λ_=>by kernel_rfl) (λ_=>by kernel_rfl);have s:=gI (P:=Tryz.prog) z (t:=195) (#[⟨.int .i64 1,.int .i64 2,0⟩]:Array MapEntry) 1 (.int .i64 2) (.int .i64 3) Tryz.underlying195 (λ_=>by kernel_rfl) (λ_=>by kernel_rfl);have m2:=gI (P:=Tryz.prog) z (t:=195) (#[⟨.int .i64 1,.int .i64 2,0⟩,⟨.int .i64 2,.int .i64 3,1⟩]:Array MapEntry) 2 (.int .i64 3) (.int .i64 4) Tryz.underlying195 (λ_=>by kernel_rfl) (λ_=>by kernel_rfl);have ml:=aaE z M;have gP:jU.sz (aX g fn).sort=xm (aX g fn).sort:=rfl;rw[gP]at x0 q0;unfold yA at ml;generalize F:(aX g fn).sort=E at*;clear F Oa ho S T gP M;generalize xm E=sp at*;go_wp2;obtain⟨m,A⟩:=xE (z.heap.size+1);rw[<-A]at X |-;refine eR (λY=>nf Y base x y ql qs qf g r gv ps (left-1) vs rv vv lg/\m_ (λq=>q=ql) y rv rv w Y/\Y.heap[w.heap.size]? =some (.cells #[.int .i64 0,.int .i64 0,.slice none 0 0] 26 (0,0))/\Y.heap[m]? =some (.cells #[.int .i64 E,.int .i64 (aX g fn).n,.slice none 0 0] 26 (0,0)))
     ⟨L.o.below G.o,V3.o.below G.o,bQ O.o G.o Ng,X.o⟩ ?_
    rintro Y ⟨F,S,T,M⟩;obtain⟨MY,VY,KY,OY⟩:=h_4 F S T M;have HQ:Hd (w.heap.size<m/\m<Y.heap.size):=hI ⟨by rw[A];omega,(gE M).1⟩;obtain⟨i0,hi,zW,sZ,xw⟩:=info_parts Tryz.QH;have IK:1<=left:=by have:=H0.o;omega
    have eg:∀args w,(callFunc 140 args).run Tryz.prog w=.ok (.enter 140 args) w:=enters_of Tryz.func140 (by kernel_rfl) rfl;clear F S T M A m0 s m2 ml x0 x1 x2 zx3 zs3 zy3 Ng q0 e3 e4 L V3 O G X KX Q
    go_loopw [57] (λi wr=>∃(j:Nat) (LK:Int) (Ww:List Int) (Hp:Option Nat) (F:Value) (Wx:Bool) (kv:Value) (Ts:List Nd) (Wy:List Value),j<=(aX g fn).parts.length/\i=.int .i64 j/\nf wr base x y ql qs qf g r gv ps LK Ww Hp F Wx/\m_ (λq=>q=ql\/q=m) y rv Hp Y wr/\
     wr.heap[m]? =some (.cells #[.int .i64 E,.int .i64 (aX g fn).n,kv] 26 (0,0))/\j_ wr Y.heap.size (nO 26 Y.heap.size) 26 kv Ts Wy/\xG (((aX g fn).parts.take j).map t) (left-1) vs lg Ts LK Ww Wx) (λi _=>(aX g fn).parts.length-(intOf i).toNat)
    case atStart=>exact⟨0,_,vs,rv,vv,lg,_,[],[],aw _,rfl,MY.o,m_.refl _ _ _ _,OY.o,j_.nil _ _ _ _,xG.nil _ (by omega) _ _⟩
    case round=>
     obtain⟨j,LK,Ww,Hp,F,Wx,kv,Ts,Wy,hj,rfl,mj,vj,S,tj,T⟩:=hrel;have E2:Ts.length=j:=by have:=T.len;rw[aW,List.length_take]at this;omega
     obtain⟨ka,kc,rfl⟩:=tj.slice;rw[E2]at S tj;have o0:=cZ S;have zo:=af o0;obtain⟨MJ,VJ,OJ,TJ,AJ,Gj⟩:=h_6 mj vj S tj T E2;by_cases bO:j<(aX g fn).parts.length
     ·have dL:=hI bO;have G:=mj.gr.parts fn K;rw[HPN.o,bK]at G;obtain⟨pb,po,RK,hpe,Ke,d0⟩:=G.cell bO;cases hpe;obtain⟨M,QA⟩:=xE ((aX g fn).parts[j]?.getD 0);have A:M∈(aX g fn).parts:=by rw[QA,ae bO];exact aR _
      have Ud:M<g.length:=U.wf.parts fn K M A;have AH:(t M).size<=k:=by
       have J:=Nd.ZF (a:=E) (n:=(aX g fn).n) (aN.2 ⟨M,A,rfl⟩:t M∈(aX g fn).parts.map t);rw[<-C.o]at J;omega
      have wS:Hd (((aX g fn).parts.take (j+1)).map t=((aX g fn).parts.take j).map t++[t M]):=hI (by
       rw[aV bO,bA,QA,ae bO];rfl)
      rw[<-QA]at d0;have Wz:(((aX g fn).parts.take j).map t).length=j:=by rw[aW,List.length_take];omega
      have hlw:=T.low;rw[Wz]at hlw;have CY:=T.down;have hmn:=T.many;have HC:=hI (QI.o M wr LK Ww Hp F Wx AH Ud mj (by omega) (by omega) (by omega));have cf:=cZ mj.bf;have zf:=af cf;have KZ:(j:Int)<((aX g fn).parts.length:Int):=by omega
      clear mj vj S tj T G QA A AH hlw CY hmn E2 Wz
      go_wp2_with fail
      refine HC.o.mono ?_;rintro e w3 ⟨T',Nk,gT,o_,qN,yz,rC,rfl,mJ,AL,pG,ef⟩;obtain⟨n1,n2,n3,n4,n5,n6,n7,n8,n9⟩:=MJ.o.ne;have key:∀{b:Nat} {d:Array Value} {f:Nat×Nat},wr.heap[b]? =some (.cells d 26 f)->w3.heap[b]? =some (.cells d 26 f):=λ{b d f} l=>by
       have ne:∀{c:Nat} {G:Array Value} {u:TypeId},wr.heap[c]? =some (.cells G u (0,0))->u≠26->b≠c:=λ{c G u} h2 eC e=>by
        subst e;rw[l]at h2;exact anz
       refine pG.same _ _ l (ne MJ.o.sc.fW (by decide)) (λe=> ?_) (ne MJ.o.bl (by decide));obtain⟨_,cur,hc⟩:=MJ.o.sc.lt.2 b e.symm;exact ne hc (by decide) rfl
      have o3:=key OJ.o;have t3:=TJ.o.keep (λb cur _ l=>key l) (λb o A l=>by obtain⟨_,cur,f,rfl⟩:=A;exact key l);have rH:=iI TJ.o.own;have hq3:m<w3.heap.size:=(gE o3).1;have HWZ:Hd (Y.heap.size<=wr.heap.size/\wr.heap.size<=w3.heap.size):=hI ⟨VJ.o.size,pG.size⟩;obtain⟨G,lW⟩:=nH2 w3 (.cells #[.int .i64 T'.a,.int .i64 T'.n,Nk] 26) (.cells #[.int .i64 T'.a,.int .i64 T'.n,Nk] 26);have q0:=fu o3;obtain⟨CW,HV3,B0,FT,Gk,ox,kI,cR⟩:=h_8 (AL.below G) ((VJ.o.trans (pG.weaken λq _ D=>.inl D)).below G) (bQ o3 G hq3) (t3.keep (λb cur _ l=>cY G l) (gN.below G)) ((mJ.keep (gN.below G)).mono (S':=λb o=>nO 26 Y.heap.size b o/\some b≠(Value.slice ka j kc).ownBlock) (λb o _ A=>⟨⟨ai HWZ.o.1 A.1,A.2⟩,λe=>by have:=(rH b e.symm).2;have:=A.1;omega⟩)) ef lW.2 G;have hoY:∀q,(Value.slice ka j kc).ownBlock=some q->Y.heap.size<=q:=λq D=>(rH q D).1;have HOY:=hI hoY;obtain⟨sk,Ad,Oo⟩:=mJ.slice;subst Oo;clear AL pG mJ ef o3 t3 rH key G lW n1 n2 n3 n4 n5 n6 n7 n8 n9 hoY HC
      go_wp2_with (at_builtin;refine wpList_append_own_at _ rfl _ _ 24 rfl Y.heap.size 26 i0 _ 3 40 Tryz.underlying24 hi zW sZ xw rfl (by decide) _ _ _ rfl FT.o.own ⟨w3.heap.size+1,0,none⟩ 1 1 [.int .i64 T'.a,.int .i64 T'.n,.slice sk T'.k.len Ad] rfl rfl ?c1 ?c2 ?c3 ?c4 ?c5 ?_)
      case c1=>
       exact anw
      case c2=>
       exact ank
      case c3=>have:=Gj.o;have:=dL.o;unfold maxLen;omega
      case c4=>have:=Gj.o;have:=dL.o;omega
      case c5=>have:=cR.o.size;have:=HWZ.o;omega
      intro v' w4 eM G _ mF;obtain⟨uB,uC,rfl⟩:=cr eM;have ahH:some m≠(Value.slice ka j kc).ownBlock:=λe=>by have:=HOY.o _ e.symm;have:=HQ.o.2;omega
      have o4:=(G.block m (gE B0.o).1 ahH).trans B0.o;have q4:=fu o4;have f4:w4.frozen? ⟨m,2,none⟩=false:=by simp[World.frozen?,o4]
      have zq4:=af q4;have t4:=j_.snoc (t:=T') (p:=.slice sk T'.k.len Ad) FT.o eM G (mF.imp (λe=>e) λe=>e.trans (by simp)) Gk.o;have m4:=CW.o.grown FT.o.own G;have v4:=HV3.o.grown G HOY.o;have jv:=vo.ahF (w:=w4) (q:=m) (o:=2) (v:=.slice uB (Ts.length+1) uC);have o5:(w4.setCell ⟨m,2,none⟩ (.slice uB (Ts.length+1) uC)).heap[m]? =some (.cells #[.int .i64 E,.int .i64 (aX g fn).n,.slice uB (Ts.length+1) uC] 26 (0,0)):=by rw[cz o4];rfl
      have t5:=t4.keep (λb cur l h=>jv.same b _ (by have:=HQ.o.2;omega) h) (λb o A h=>jv.same b _ (by have:=HQ.o.2;have:=A.1;omega) h);have m5:=m4.but o4 jv;have v5:=v4.akp jv (.inr rfl);have a5:=xG.snoc (by omega) AJ.o ox.o;rw[<-wS.o]at a5;have HF:=hI (show _/\_/\_/\_/\_ from⟨m5,v5,o5,t5,a5⟩);clear eM G mF ahH o4 t4 m4 v4 jv o5 t5 m5 v5 a5 CW HV3 B0 FT Gk ox kI cR;go_wp2
      go_roundw
      case rel=>exact⟨j+1,gT,o_,qN,yz,rC,_,Ts++[T'],_,dL.o,by go_num,HF.o.1,HF.o.2.1,HF.o.2.2.1,HF.o.2.2.2.1,HF.o.2.2.2.2⟩
      case measure=>have:=dL.o;simp[intOf];omega
     ·obtain rfl:j=(aX g fn).parts.length:=by omega
      have o1:=eY S;have o2:=fu S;have G:=vj.same _ _ KY.o (by have:=H.o.sc.lt.1;omega) (λe=>by have:=(H.o.sc.lt.2 _ e.symm).1;omega) (λe=>by
       have J:=(gE H.o.bl).1;have h2:=HQ.o.1;rcases e with e|e<;>omega)
      have b0:=cZ G;have b1:=eY G;have b2:=fu G;have b3:∀jj,wr.frozen? ⟨w.heap.size,jj,none⟩=false:=λjj=>by simp[World.frozen?,G]
      have zb:=af b0;have KR:=hI G;clear mj vj S tj T G;go_wp2;refine uO (λW'=>vo w.heap.size wr W'/\W'.heap[w.heap.size]? =some (.cells #[.int .i64 (⟨E,(aX g fn).n,Fo.of Ts⟩:Nd).a,.int .i64 (⟨E,(aX g fn).n,Fo.of Ts⟩:Nd).n,Value.slice ka (aX g fn).parts.length kc] 26 (0,0))) (LJ KR.o _ _ _) ?_;rintro W' ⟨Z,N⟩;have r0:=cZ N;have r1:=eY N;have r2:=fu N;refine bodyPost_ret (v:=.agg #[.int .i64 E,.int .i64 (aX g fn).n,.slice ka (aX g fn).parts.length kc]) (by simp[results,Tryz.results140,go_sem,r0,r1,r2]) rfl ?_;have M:=AJ.o;rw[bE]at M;have mJ:=TJ.o.aaC (λb cur l=>⟨l,_,_,rfl⟩) (by rw[Gj.o];omega);have hbt:w.heap.size<=Y.heap.size:=VY.o.size;have hmt:=((VY.o.weaken (E':=λq=>q=ql\/q=m) λq _ D=>.inl D).trans VJ.o).weaken (E':=λq=>q=ql) λq J D=>D.resolve_right λe=>by have:=HQ.o.1;omega
      exact⟨⟨E,(aX g fn).n,Fo.of Ts⟩,_,LK,Ww,Hp,F,Wx,rfl,(mJ.keep λb o A h=>Z.same b o (by have J:=A.1;have h2:=HQ.o;omega) h).mono λb o _ A=>⟨ai hbt A.1,A.2⟩,MJ.o.but KR.o Z,hmt.but Z lR,by rw[C.o];exact M.node Na IK (by rw[aW];omega)⟩
def RfP(t:Nat->Nd)(base x y:Nat)(g:Gr)(r:Option Nat)(gv:Value)(ps:List Value)(vs:List Int)(rv:Option Nat)(lg:Bool)(n:Nat)(w:World)(e:Ending)(w':World):Prop:=
 ∃(T:Nd) (kv:Value) (gT:Int) (o_:List Int) (a:Option Nat) (b:Value) (rC:Bool),e=.returned (.agg #[.int .i64 T.a,.int .i64 T.n,kv])/\iJ (nO 26 w.heap.size) w' kv T.k/\
  ed jU w' base x g r gv ps/\oS w' 0 y x o_ a b rC/\Sep ps a/\mR y rv a w w'/\vn (t n) 20 vs lg T gT o_ rC
theorem LL{t:Nat->Nd}{base x y:Nat}{g:Gr}{r:Option Nat}{gv:Value}{ps:List Value}(D:Good g)(E:∀i,i<g.length->((aX g i).sort=0\/(aX g i).sort=2\/(aX g i).sort=3\/(aX g i).sort=4)/\(aX g i).parts.length<=1000000)(F:Trees g t)
 (n:Nat) (w:World) (vs:List Int) (rv:Option Nat) (vv:Value) (lg:Bool) (G:n<g.length) (k:ed jU w base x g r gv ps) (j:oS w 0 y x vs rv vv lg) (m:Sep ps rv) (S:vs.length<=100000000):
 Calls Tryz.prog 80 #[.pointer (some ⟨y,0,none⟩),.int .i64 (n:Nat)] w (RfP t base x y g r gv ps vs rv lg n w):=by
 obtain⟨W,l⟩:=xE ((((w.alloc (.cells #[.pointer (some ⟨y,0,none⟩)] 117)).alloc (.cells #[.int .i64 0,.int .i64 0,.slice none 0 0] 26)).alloc (.cells #[.int .i64 20] 3)).alloc (.cells #[.func (.func 140) #[] #[.pointer (some ⟨w.heap.size+2,0,none⟩),.pointer (some ⟨w.heap.size,0,none⟩),.pointer (some ⟨w.heap.size+3,0,none⟩)]] 70));have c:=Below.ZO w (.cells #[.pointer (some ⟨y,0,none⟩)] 117) (.cells #[.int .i64 0,.int .i64 0,.slice none 0 0] 26) (.cells #[.int .i64 20] 3) (.cells #[.func (.func 140) #[] #[.pointer (some ⟨w.heap.size+2,0,none⟩),.pointer (some ⟨w.heap.size,0,none⟩),.pointer (some ⟨w.heap.size+3,0,none⟩)]] 70);have a:=mO w (.cells #[.pointer (some ⟨y,0,none⟩)] 117) (.cells #[.int .i64 0,.int .i64 0,.slice none 0 0] 26) (.cells #[.int .i64 20] 3) (.cells #[.func (.func 140) #[] #[.pointer (some ⟨w.heap.size+2,0,none⟩),.pointer (some ⟨w.heap.size,0,none⟩),.pointer (some ⟨w.heap.size+3,0,none⟩)]] 70);rw[<-l]at c a;have d:nf W base x y (w.heap.size+2) w.heap.size (w.heap.size+3) g r gv ps 20 vs rv vv lg:=
  ⟨k.below c,j.below c,a.2.2.1,a.1,a.2.2.2,Sep.Ca k (λq p=>by cases p;omega),m,λe=>by have:=(j.lt.2 _ e).1;omega⟩
 obtain⟨H,I,J,s,f⟩:=h_5 (Wu D E F _ n W 20 vs rv vv lg lR G d (by omega) (by omega) (by omega)) a c l j;have K:=cZ a.2.2.2;have U:=af K;have V:∀(fn:Fn) (first cap:Array Value) (w:World),(Instr.makeFunc fn first cap).run Tryz.prog w=.ok (.func fn first cap) w:=λ_ _ _ _=>rfl;have X:∀args w,(callFunc 140 args).run Tryz.prog w=.ok (.enter 140 args) w:=enters_of Tryz.func140 (by kernel_rfl) rfl;clear k j m a c l d
 go_enter Tryz.func80,Tryz.ntmps80
 go_upto_region 4 with fail
 rw[<-s.o]
 go_wp2_with fail
 refine H.o.mono ?_;rintro e m ⟨T,kv,gT,o_,u,L,rC,rfl,c,z,d,A⟩;have M:=f.o.lt.1;have a:=d.same _ _ I.o.2.1 (by omega) (λe=>by have:=(f.o.lt.2 _ e.symm).1;omega) (by omega);have b0:=cZ a;have Y:=eY a;have Z:=fu a;have b3:∀j,m.frozen? ⟨w.heap.size+1,j,none⟩=false:=λj=>by simp[World.frozen?,a]
 have zb:=af b0;obtain⟨B,N,O,P,Q⟩:=h_5 a c z d A;obtain⟨C,sc,rfl⟩:=c.slice;clear a c z d A;go_wp2;refine uO (λW'=>vo (w.heap.size+1) m W'/\W'.heap[w.heap.size+1]? =some (.cells #[.int .i64 T.a,.int .i64 T.n,.slice C T.k.len sc] 26 (0,0))) (LJ B.o _ _ _) ?_;rintro W' ⟨j,k⟩;have R:=cZ k;have r1:=eY k;have r2:=fu k;refine bodyPost_ret (v:=.agg #[.int .i64 T.a,.int .i64 T.n,.slice C T.k.len sc]) (by simp[results,Tryz.results80,go_sem,R,r1,r2]) rfl ?_;have l:=O.o.but B.o j;have gP:w.heap.size+4<=W.heap.size:=by rw[s.o];simp
 have c:mR y rv u w W':=((((m_.cB (λq=>q=w.heap.size+2) y rv J.o).trans P.o).but j (by omega)).weaken (E':=λ_=>False) (λq d p=>by omega)).toV;exact⟨T,_,gT,o_,u,L,rC,rfl,(N.o.keep λb o a h=>j.same b o (by have d:=a.1;omega) h).mono λb o _ a=>⟨by have:=a.1;omega,a.2⟩,l.gr,l.sc,l.sv,c,Q.o⟩
structure rD (L:List Nd) (vs:List Int) (lg:Bool) (Ts:List Nd) (o_:List Int) (rC:Bool):Prop where
 fit:(∀T∈L,T.size<=20)->Ts=((Fo.of L).num vs).2.list/\o_=((Fo.of L).num vs).1/\rC=lg
 cut:¬(∀T∈L,T.size<=20)->rC=true
 keep:lg=true->rC=true
 many:o_.length<=vs.length+20*L.length
 len:Ts.length=L.length
theorem rD.nil(vs:List Int)(lg:Bool):rD [] vs lg [] vs lg:=⟨λ_=>⟨rfl,rfl,rfl⟩,λh=>ay (λT a=>by cases a) h,λh=>h,gz _ _,rfl⟩
theorem rD.snoc{L Ts:List Nd}{T T':Nd}{vs b c:List Int}{lg d f:Bool}{gT:Int}(h:rD L vs lg Ts b d)(h':vn T 20 b d T' gT c f):rD (L++[T]) vs lg (Ts++[T']) c f:=by
 obtain⟨j,k⟩:=EY L T vs;refine⟨λg=> ?_,λhc=> ?_,λe=>h'.keep (h.keep e),?_,by simp[h.len]⟩
 ·obtain⟨i,a2,a3⟩:=h.fit λX a=>g X (by simp[a]);have o:=g T (by simp);obtain⟨l,_,m,n⟩:=h'.fit (by omega);exact⟨by rw[k,i,l,a2],by rw[j,m,a2],n.trans a3⟩
 ·by_cases i:∀X∈L,X.size<=20
  ·refine h'.cut λl=>hc λX a=> ?_;rcases aQ.1 a with a|a
   ·exact i X a
   ·rw[aJ.1 a];omega
  ·exact h'.keep (h.cut i)
 ·have i:=h.many;have l:=h'.many;have a:(20:Int).toNat=20:=rfl;rw[az,aY];omega
def Fo.Cc(φ:Int->Int):Fo->Fo
 | .nil=>.nil
 | .cons a n k r=>.cons a (if a=1 then φ n else n) (k.Cc φ) (r.Cc φ)
def Nd.Cc(φ:Int->Int)(t:Nd):Nd:=⟨t.a,if t.a=1 then φ t.n else t.n,t.k.Cc φ⟩
theorem Fo.E3(φ:Int->Int):∀F:Fo,(F.Cc φ).list=F.list.map (Nd.Cc φ)
 | .nil=>rfl
 | .cons a n k r=>by unfold Fo.Cc Fo.list;rw[Fo.E3 φ r];rfl
theorem Fo.Ae{P:Int->Prop}:∀{F:Fo} {j:Nat},F.Br P->j<F.len->((F.at j).a=1->P (F.at j).n)/\(F.at j).k.Br P
 | .nil,_,_,h=>ay h (ax _)
 | .cons _ _ _ _,0,h,_=>⟨h.1,h.2.1⟩
 | .cons _ _ _ _,j+1,h,a=>Fo.Ae (j:=j) h.2.2 (by unfold Fo.len at a;omega)
theorem Fo.Jq{F:Fo}{j:Nat}(h:j<F.len):F.list.take (j+1)=F.list.take j++[F.at j]:=by
 have a:j<F.list.length:=by rw[Fo.jg];exact h
 rw[aV a,Fo.v7,ae a];rfl
theorem vr{gf:Nat}{caps:Array Value}{φ:Int->Int}{P:Int->Prop}{W0:World}(O:∀args w,(callFunc gf args).run Tryz.prog w=.ok (.enter gf args) w)
 (L:∀n W,P n->Below W0.heap.size W0 W->Calls Tryz.prog gf (#[.int .i64 n]++caps) W λe W'=>e=.returned (.int .i64 (φ n))/\Below W.heap.size W W'):
 ∀(m:Nat) (t:Nd) (tv:Value) (w:World) (B:Nat),t.size<=m->cV w B tv t->B<=w.heap.size->(t.a=1->P t.n)->t.k.Br P->Below W0.heap.size W0 w->t.size<=100000000->
  Calls Tryz.prog 79 #[tv,.func (.func gf) #[] caps] w λe w'=>∃kv,e=.returned (.agg #[.int .i64 t.a,.int .i64 (if t.a=1 then φ t.n else t.n),kv])/\iJ (nO 26 w.heap.size) w' kv (t.k.Cc φ)/\Below w.heap.size w w'
 |0,t,_,_,_,h,_,_,_,_,_,_=>ay h (by unfold Nd.size;omega)
 |m+1,⟨a,n,k⟩,tv,w,B,hm,hv,hB,hp,r,M,N=>by
  obtain⟨kv,rfl,E⟩:=hv;have F:=E.small;have HKS:=hI N;have Se:Hd (k.len<=100000000):=hI (by have:=k.nE;unfold Nd.size at N;simp only at N;omega);clear N;obtain⟨ka,kc,rfl⟩:=E.slice;obtain⟨H,I⟩:=nH2 w (.cells #[.int .i64 a,.int .i64 n,.slice ka k.len kc] 26) (.cells #[.int .i64 0,.int .i64 0,.slice none 0 0] 26);obtain⟨Sz,HB,HPK,P9,X,cR,HM,QI⟩:=h_8 E hB r M I H hm (vr O L m);obtain⟨i0,hi,zW,sZ,xw⟩:=info_parts Tryz.QH;by_cases s:a=1
  ·have e1:(a==1)=true:=by rw[s];rfl
   have HC:=hI (L n _ (hp s) (ag M H lR));obtain⟨x,G⟩:=xE (φ n);simp only[aq s,<-G];rw[<-G]at HC;clear E hB r M I H hm hp L s G
   go_enter Tryz.func79,Tryz.ntmps79
   go_wp2_with fail
   refine HC.o.mono ?_;rintro e Z ⟨rfl,G⟩;have d:=cY G X.o.1;have c:=cY G X.o.2;have q:=ag cR.o G lR;have f0:∀j,Z.frozen? ⟨w.heap.size,j,none⟩=false:=λj=>by simp[World.frozen?,d]
   have c1:=eY d;have c2:=fu d;have z0:=af c1;have s2:=cz (o:=1) (v:=.int .i64 x) d;have u:=Below.setCell q (p:=⟨w.heap.size,1,none⟩) lR (.int .i64 x);have f:=(au Z ⟨w.heap.size,1,none⟩ (.int .i64 x) (w.heap.size+1) (by simp)).trans c;have HF:=hI (show _/\_/\_ from⟨u,s2,f⟩);clear G d c q s2 u f HC;go_wp2;refine eR (λY=>Below w.heap.size w Y/\Y.heap[w.heap.size]? =some (.cells #[.int .i64 a,.int .i64 x,.slice ka k.len kc] 26 (0,0))/\Y.heap[w.heap.size+1]? =some (.cells #[.int .i64 0,.int .i64 0,.slice none 0 0] 26 (0,0))) HF.o ?_;rintro Y ⟨J,y,z⟩;obtain⟨Q,A,C⟩:=h_3 J y z;have Wk:Hd (w.heap.size+1<Y.heap.size):=hI (gE z).1;have R:=fu y;have zy:=af R;clear J y z
   go_loopw [5,19] (λS i wr=>∃(j:Nat) (Ts:List Nd) (K:List Value),j<=k.len/\i=.int .i64 j/\Ts=(k.list.take j).map (Nd.Cc φ)/\Below Y.heap.size Y wr/\j_ wr Y.heap.size (nO 26 Y.heap.size) 26 S Ts K) (λ_ i _=>k.len-(intOf i).toNat)
   case atStart=>exact⟨0,[],[],aw _,rfl,rfl,bR,j_.nil _ _ _ _⟩
   case round=>
    obtain⟨j,Ts,K,hj,rfl,Kg,Hm,tj⟩:=hrel;have E2:Ts.length=j:=by rw[Kg,aW,List.length_take,Fo.jg];omega
    obtain⟨ra,rc,rfl⟩:=tj.slice;rw[E2]at tj |-;obtain⟨HBJ,TJ,HTS,Gj⟩:=h_4 Hm tj Kg E2;have ir:Hd (Below w.heap.size w wr):=hI (ag Q.o Hm lR);by_cases bO:j<k.len
    ·exact amn
    ·obtain rfl:j=k.len:=by omega
     have kw:=cY Hm A.o;have f:=cY Hm C.o;have mJ:=tj.aaC (λb cur hb=>⟨hb,_,_,rfl⟩) (by rw[E2];exact F);rw[Kg,List.take_of_length_le (by rw[Fo.jg];exact lR),<-Fo.E3,Fo.l9]at mJ;have f0:∀j,wr.frozen? ⟨w.heap.size,j,none⟩=false:=λj=>by simp[World.frozen?,kw]
     have c2:=fu kw;have z2:=af c2
     go_upto_region 10 with fail
     refine eR (λV=>V=wr.setCell ⟨w.heap.size,2,none⟩ (.slice ra k.len rc)) rfl ?_;rintro V hV;have d:V.heap[w.heap.size]? =some (.cells #[.int .i64 a,.int .i64 x,.slice ra k.len rc] 26 (0,0)):=by rw[hV,cz kw];rfl
     have c:V.heap[w.heap.size+1]? =some (.cells #[.int .i64 0,.int .i64 0,.slice none 0 0] 26 (0,0)):=by rw[hV,au _ _ _ _ (by simp)];exact f
     have d0:=cZ d;have d1:=eY d;have d2:=fu d;have b0:=cZ c;have b1:=eY c;have b2:=fu c;have b3:∀jj,V.frozen? ⟨w.heap.size+1,jj,none⟩=false:=λjj=>by simp[World.frozen?,c]
     have zd:=af d0;have zb:=af b0;have g:Below w.heap.size w V:=by rw[hV];exact Below.setCell ir.o (p:=⟨w.heap.size,2,none⟩) lR _
     have l:iJ (nO 26 Y.heap.size) V (.slice ra k.len rc) (k.Cc φ):=by
      exact an4
     obtain⟨T,LM,HFT⟩:=h_3 c g l;clear kw f mJ tj E2 d c g l Hm c2 f0 hV;go_wp2;refine uO (λW'=>vo (w.heap.size+1) V W'/\W'.heap[w.heap.size+1]? =some (.cells #[.int .i64 a,.int .i64 x,.slice ra k.len rc] 26 (0,0))) (LJ T.o _ _ _) ?_;rintro W' ⟨b',D⟩;have U:=cZ D;have r1:=eY D;have r2:=fu D;refine bodyPost_ret (v:=.agg #[.int .i64 a,.int .i64 x,.slice ra k.len rc]) (by simp[results,Tryz.results79,go_sem,U,r1,r2]) rfl ?_;exact am1
  ·have e1:(a==1)=false:=by rw[beq_eq_false_iff_ne];exact s
   simp only[ah s];have HF:=hI (show _/\_/\_ from⟨H,I.1,I.2⟩);clear E hB r M I H hm hp L s
   go_enter Tryz.func79,Tryz.ntmps79
   go_wp2;refine eR (λY=>Below w.heap.size w Y/\Y.heap[w.heap.size]? =some (.cells #[.int .i64 a,.int .i64 n,.slice ka k.len kc] 26 (0,0))/\Y.heap[w.heap.size+1]? =some (.cells #[.int .i64 0,.int .i64 0,.slice none 0 0] 26 (0,0))) HF.o ?_;rintro Y ⟨J,y,z⟩;obtain⟨Q,A,C⟩:=h_3 J y z;have Wk:Hd (w.heap.size+1<Y.heap.size):=hI (gE z).1;have R:=fu y;have zy:=af R;clear J y z
   go_loopw [5,19] (λS i wr=>∃(j:Nat) (Ts:List Nd) (K:List Value),j<=k.len/\i=.int .i64 j/\Ts=(k.list.take j).map (Nd.Cc φ)/\Below Y.heap.size Y wr/\j_ wr Y.heap.size (nO 26 Y.heap.size) 26 S Ts K) (λ_ i _=>k.len-(intOf i).toNat)
   case atStart=>exact⟨0,[],[],aw _,rfl,rfl,bR,j_.nil _ _ _ _⟩
   case round=>
    obtain⟨j,Ts,K,hj,rfl,Kg,Hm,tj⟩:=hrel;have E2:Ts.length=j:=by rw[Kg,aW,List.length_take,Fo.jg];omega
    obtain⟨ra,rc,rfl⟩:=tj.slice;rw[E2]at tj |-;obtain⟨HBJ,TJ,HTS,Gj⟩:=h_4 Hm tj Kg E2;have ir:Hd (Below w.heap.size w wr):=hI (ag Q.o Hm lR);by_cases bO:j<k.len
    ·exact amn
    ·obtain rfl:j=k.len:=by omega
     have kw:=cY Hm A.o;have f:=cY Hm C.o;have mJ:=tj.aaC (λb cur hb=>⟨hb,_,_,rfl⟩) (by rw[E2];exact F);rw[Kg,List.take_of_length_le (by rw[Fo.jg];exact lR),<-Fo.E3,Fo.l9]at mJ;have f0:∀j,wr.frozen? ⟨w.heap.size,j,none⟩=false:=λj=>by simp[World.frozen?,kw]
     have c2:=fu kw;have z2:=af c2
     go_upto_region 10 with fail
     refine eR (λV=>V=wr.setCell ⟨w.heap.size,2,none⟩ (.slice ra k.len rc)) rfl ?_;rintro V hV;have d:V.heap[w.heap.size]? =some (.cells #[.int .i64 a,.int .i64 n,.slice ra k.len rc] 26 (0,0)):=by rw[hV,cz kw];rfl
     have c:V.heap[w.heap.size+1]? =some (.cells #[.int .i64 0,.int .i64 0,.slice none 0 0] 26 (0,0)):=by rw[hV,au _ _ _ _ (by simp)];exact f
     have d0:=cZ d;have d1:=eY d;have d2:=fu d;have b0:=cZ c;have b1:=eY c;have b2:=fu c;have b3:∀jj,V.frozen? ⟨w.heap.size+1,jj,none⟩=false:=λjj=>by simp[World.frozen?,c]
     have zd:=af d0;have zb:=af b0;have g:Below w.heap.size w V:=by rw[hV];exact Below.setCell ir.o (p:=⟨w.heap.size,2,none⟩) lR _
     have l:iJ (nO 26 Y.heap.size) V (.slice ra k.len rc) (k.Cc φ):=by
      exact an4
     obtain⟨T,LM,HFT⟩:=h_3 c g l;clear kw f mJ tj E2 d c g l Hm c2 f0 hV;go_wp2;refine uO (λW'=>vo (w.heap.size+1) V W'/\W'.heap[w.heap.size+1]? =some (.cells #[.int .i64 a,.int .i64 n,.slice ra k.len rc] 26 (0,0))) (LJ T.o _ _ _) ?_;rintro W' ⟨b',D⟩;have U:=cZ D;have r1:=eY D;have r2:=fu D;refine bodyPost_ret (v:=.agg #[.int .i64 a,.int .i64 n,.slice ra k.len rc]) (by simp[results,Tryz.results79,go_sem,U,r1,r2]) rfl ?_;exact am1
theorem QJ(F G:Fo)(v x:Value)(gf:Nat)(caps:Array Value)(J:Nat->World->Prop)(n:World->Prop)(w:World)(B:Nat)(y:∀args w,(callFunc gf args).run Tryz.prog w=.ok (.enter gf args) w)
 (m:∀k W W',J k W->Below W.heap.size W W'->J k W') (hF:∀k W,J k W->dr W B v F/\dr W B x G/\B<=W.heap.size)
 (j:∀k,k<F.len->F.len=G.len->∀W a b,J k W->cV W B a (F.at k)->cV W B b (G.at k)->Calls Tryz.prog gf (#[a,b]++caps) W λe W'=>(e=.returned (.bool true)/\J (k+1) W')\/(e=.returned (.bool false)/\n W'))
 (c:J 0 w):Calls Tryz.prog 84 #[v,x,.func (.func gf) #[] caps] w λe W'=>
  (e=.returned (.bool true)/\F.len=G.len/\J F.len W')\/(e=.returned (.bool false)/\(F.len≠G.len/\J 0 W'\/F.len=G.len/\∃k,k<F.len/\n W')):=by
 obtain⟨d,g,_⟩:=hF 0 w c;have T:=d.small;have z:=g.small;obtain⟨U,sc,rfl⟩:=d.slice;obtain⟨V,X,rfl⟩:=g.slice;obtain⟨A,C,D,o⟩:=h_4 hF m j c;clear d g hF m j c;by_cases f:F.len=G.len
 case neg=>
  have q:((F.len:Int) != (G.len:Int))=true:=gy (by omega);have m:=hI f;clear f
  go_enter Tryz.func84,Tryz.ntmps84
  go_wp2;go_ret;exact .inr ⟨rfl,.inl ⟨m.o,o.o⟩⟩
 have g:=hI f;have q:((F.len:Int) != (G.len:Int))=false:=jX (by omega);clear f
 go_enter Tryz.func84,Tryz.ntmps84
 go_wp2;clear q
 go_loopw [17] (λi wr=>∃k:Nat,k<=F.len/\i=.int .i64 k/\J k wr) (λi _=>F.len-(intOf i).toNat)
 case atStart=>exact⟨0,aw _,rfl,o.o⟩
 case round=>
  obtain⟨k,Y,rfl,d⟩:=hrel;have E:=hI d;by_cases j:k<F.len
  ·have H:k<G.len:=by rw[<-g.o];exact j
   obtain⟨r,s,c⟩:=A.o k wr d;obtain⟨b,off,cap,p,I,he,K,f0,f1,f2,t⟩:=dC r bR j;cases he;obtain⟨L,Z,oh,M,N,O,P,g0,g1,g2,u⟩:=dC s bR H;cases O;have BU:b<wr.heap.size:=aC K c;have Q:L<wr.heap.size:=aC P c;have l:=hI j;have om:(k:Int)<(F.len:Int):=by omega
   have R:(k:Int)<(G.len:Int):=by omega
   have f:=Below.jE wr (.cells #[.int .i64 (F.at k).a,.int .i64 (F.at k).n,.slice p (F.at k).k.len I] 26) (.cells #[.int .i64 (G.at k).a,.int .i64 (G.at k).n,.slice M (G.at k).k.len N] 26);have m:=f.size;have S:=hI (D.o k j g.o _ _ _ (C.o k _ _ d f) ⟨_,rfl,t.below f c⟩ ⟨_,rfl,u.below f c⟩);clear r s t u d f m
   go_wp2_with fail
   refine S.o.mono ?_;rintro e r (⟨rfl,f⟩|⟨rfl,f⟩)
   ·have m:=hI f;clear f;go_wp2
    go_roundw
    case rel=>exact⟨k+1,l.o,by go_num,m.o⟩
    case measure=>have:=l.o;simp[intOf];omega
   ·have m:=hI f;clear f;go_wp2;go_ret;exact .inr ⟨rfl,.inr ⟨g.o,k,l.o,m.o⟩⟩
  ·obtain rfl:k=F.len:=by omega
   clear d;go_wp2;go_ret;exact .inl ⟨rfl,g.o,E.o⟩
theorem Hr:∀(m:Nat) (t u:Nd) (v x:Value) (w:World) (B:Nat),t.size<=m->cV w B v t->cV w B x u->B<=w.heap.size->
 aH Tryz.prog 83 #[v,x] w (.bool (jh t u))
 |0,t,_,_,_,_,_,h,_,_,_=>ay h (by unfold Nd.size;omega)
 |m+1,t,u,v,x,w,B,hm,p,l,hB=>by
  obtain⟨sv,rfl,f⟩:=p;obtain⟨q,rfl,hy⟩:=l;have r:=hI (f.mono hB);have s:=hI (hy.mono hB);have g:=Below.jE w (.cells #[.int .i64 t.a,.int .i64 t.n,sv] 26) (.cells #[.int .i64 u.a,.int .i64 u.n,q] 26);have y:∀args w,(callFunc 83 args).run Tryz.prog w=.ok (.enter 83 args) w:=enters_of Tryz.func83 (by kernel_rfl) rfl;obtain⟨z,sc,rfl⟩:=f.slice;obtain⟨A,C,rfl⟩:=hy.slice;have cR:=hI g;unfold aH;by_cases c:t.a=u.a
  case neg=>
   have D:(t.a==u.a)=false:=by simpa using c
   have HN:=hI (P4 c);clear c f hy g;exact an9
  have D:(t.a==u.a)=true:=by simpa using c
  by_cases d:t.n=u.n
  case neg=>
   have E:(t.n==u.n)=false:=by simpa using d
   have HN:=hI (P5 d);clear c d f hy g;exact an9
  have E:(t.n==u.n)=true:=by simpa using d
  have n:=hI (P6 c d);have F:=hI (QJ t.k u.k (.slice z t.k.len sc) (.slice A u.k.len C) 83 #[] (λk W=>Below w.heap.size w W/\∀j,j<k->jh (t.k.at j) (u.k.at j)=true) (λW=>Below w.heap.size w W/\∃j,jh (t.k.at j) (u.k.at j)=false) _ w.heap.size y
   (λk W W' h o=>⟨ag h.1 o lR,h.2⟩) (λk W h=>⟨r.o.below h.1 lR,s.o.below h.1 lR,h.1.size⟩)
   (λk i G W a b h H o=>(Hr m (t.k.at k) (u.k.at k) a b W w.heap.size (by have:=Fo.eD i;unfold Nd.size at hm |-;omega) H o h.1.size).mono λe W' ⟨c,d⟩=>by
    cases hc:jh (t.k.at k) (u.k.at k)with
    |true=>
     rw[hc]at c;exact .inl ⟨c,ag h.1 d lR,λj i=>if e:j=k then e ▸ hc else h.2 j (by omega)⟩
    |false=>
     rw[hc]at c;exact .inr ⟨c,ag h.1 d lR,k,hc⟩) ⟨g,λj i=>ay i (ax _)⟩)
  clear c d f hy g
  go_enter Tryz.func83,Tryz.ntmps83
  go_wp2_with (go_at_call 84;refine F.o.mono ?_;rintro e f (⟨rfl,G,c,d⟩|⟨rfl,l⟩))
  ·go_ret;exact⟨by rw[n.o,A_ G d];rfl,c⟩
  ·go_ret;rcases l with⟨G,c⟩|⟨G,_,_,c,j,i⟩
   ·exact⟨by rw[n.o,A9 G];rfl,c.1⟩
   ·exact⟨by rw[n.o,D7 i];rfl,c⟩
abbrev Met:=Int->Option Nd
def Jt(M:Met)(n:Int)(u:Nd):Option Met:=match M n with
 |none=>some λx=>if x=n then some u else M x
 |some t=>if t=u then some M else none
def tg:Fo->Fo->Met->Option Met
 | .nil,.nil,M=>some M
 | .cons a n k r,.cons b c d r',M=>(if a=1 then Jt M n ⟨b,c,d⟩else if a=b/\n=c then tg k d M else none).bind (tg r r')
 | .nil,.cons _ _ _ _,_=>none
 | .cons _ _ _ _,.nil,_=>none
def yB(t u:Nd)(M:Met):Option Met:=if t.a=1 then Jt M t.n u else if t.a=u.a/\t.n=u.n then tg t.k u.k M else none
theorem LN:∀{F G:Fo} {M:Met},F.len≠G.len->tg F G M=none
 | .nil,.nil,_,h=>ay rfl h
 | .nil,.cons _ _ _ _,_,_=>rfl
 | .cons _ _ _ _,.nil,_,_=>rfl
 | .cons a n k r,.cons b c d r',M,h=>by
  unfold tg;have:∀M,tg r r' M=none:=λM=>LN λe=>h (by unfold Fo.len;rw[e])
  cases(if a=1 then Jt M n ⟨b,c,d⟩else if a=b/\n=c then tg k d M else none)with
  |none=>rfl
  |some f=>exact this f
theorem SB{F G:Fo}{j:Nat}{M:Met}(hF:j<F.len)(a:j<G.len):tg (F.drop j) (G.drop j) M=(yB (F.at j) (G.at j) M).bind (tg (F.drop (j+1)) (G.drop (j+1))):=by
 rw[Fo.mr hF,Fo.mr a];rfl
def QK(w:World)(B mb:Nat)(M:Met):Prop:=∃f:Int->Option Value,eu eT w mb f/\∀n,match M n with
 |none=>f n=none
 |some t=>∃v,f n=some v/\cV w B v t
structure Cd (w:World) (B mb qm qf:Nat) (M:Met):Prop where
 met:QK w B mb M
 bm:w.heap[qm]? =some (.cells #[.map (some mb)] 123 (0,0))
 bf:w.heap[qf]? =some (.cells #[.func (.func 82) #[] #[.pointer (some ⟨qm,0,none⟩),.pointer (some ⟨qf,0,none⟩)]] 59 (0,0))
 le:B<=mb
theorem QK.keep{w w':World}{B mb:Nat}{M:Met}(h:QK w B mb M)(b:Below B w w')(hm:∀o,w.heap[mb]? =some o->w'.heap[mb]? =some o):QK w' B mb M:=by
 obtain⟨f,c,d⟩:=h;refine⟨f,c.same hm,λn=> ?_⟩;have:=d n;cases a:M n with
 |none=>rw[a]at this;exact this
 |some t=>rw[a]at this;obtain⟨v,e,g⟩:=this;exact⟨v,e,g.below b lR⟩
theorem Cd.below{w w':World}{B mb qm qf:Nat}{M:Met}(h:Cd w B mb qm qf M)(a:Below w.heap.size w w')(hB:B<=w.heap.size):Cd w' B mb qm qf M:=
 ⟨h.met.keep (a.mono hB) λo b=>(a.block _ (gE b).1).trans b,cY a h.bm,cY a h.bf,h.le⟩
theorem Hs{B mb qm qf:Nat}:∀(m:Nat) (t u:Nd) (tv uv:Value) (w:World) (M:Met),t.size<=m->cV w B tv t->cV w B uv u->Cd w B mb qm qf M->B<=w.heap.size->
 Calls Tryz.prog 82 #[tv,uv,.pointer (some ⟨qm,0,none⟩),.pointer (some ⟨qf,0,none⟩)] w λe w'=>Fix (λq=>q=mb) w w'/\((∃F,yB t u M=some F/\e=.returned (.bool true)/\Cd w' B mb qm qf F)\/(yB t u M=none/\e=.returned (.bool false)))
 |0,t,_,_,_,_,_,h,_,_,_,_=>ay h (by unfold Nd.size;omega)
 |m+1,t,u,tv,uv,w,M,hm,J,hu,j,hB=>by
  obtain⟨sv,rfl,H⟩:=J;obtain⟨xv,rfl,hy⟩:=hu;obtain⟨C,sc,rfl⟩:=H.slice;obtain⟨s,y,rfl⟩:=hy.slice;obtain⟨g,I⟩:=nH2 w (.cells #[.int .i64 t.a,.int .i64 t.n,.slice C t.k.len sc] 26) (.cells #[.int .i64 u.a,.int .i64 u.n,.slice s u.k.len y] 26);obtain⟨cR,X,HS,HY⟩:=h_4 g (j.below g hB) (H.below g hB) (hy.below g hB);have EL:qm<w.heap.size:=(gE j.bm).1;have Jh:qf<w.heap.size:=(gE j.bf).1;have cm:=cZ j.bm;have cf:=cZ j.bf;by_cases i:t.a=1
  ·have L:(t.a==1)=true:=by rw[i];rfl
   obtain⟨f,Q,U⟩:=X.o.met;have D:=U t.n;have Hq:Hd (yB t u M=Jt M t.n u):=hI (aq i);have HU:=hI hy;have N:=hI j;cases K:M t.n with
   |none=>
    rw[K]at D;have O:=hI K;have l:=pE (w:=_) (T:=123) (et:=26) (P:=Tryz.prog) Tryz.underlying123 gU (z:=.agg #[.int .i64 0,.int .i64 0,.slice none 0 0]) (λw=>by kernel_rfl) Q (k:=t.n) D true;simp only[if_true]at l;unfold eT at l;have E:=Below.cA ((w.alloc (.cells #[.int .i64 t.a,.int .i64 t.n,.slice C t.k.len sc] 26)).alloc (.cells #[.int .i64 u.a,.int .i64 u.n,.slice s u.k.len y] 26)) (.cells #[.int .i64 0,.int .i64 0,.slice none 0 0] 26);have fT:=hI (show _/\_/\_ from⟨ag g E lR,cY E I.1,cY E I.2⟩);clear U K Q D j H hy g I hm i E
    go_enter Tryz.func82,Tryz.ntmps82
    go_upto_region 4 with fail
    refine eR (λY=>Below w.heap.size w Y/\Y.heap[w.heap.size]? =some (.cells #[.int .i64 t.a,.int .i64 t.n,.slice C t.k.len sc] 26 (0,0))/\Y.heap[w.heap.size+1]? =some (.cells #[.int .i64 u.a,.int .i64 u.n,.slice s u.k.len y] 26 (0,0))) fT.o ?_;clear l;rintro Y ⟨A,Z,R⟩;have G:=N.o.below A hB;obtain⟨f1,V,Ez⟩:=G.met;obtain⟨o,eo,l6,_⟩:=run_set (T:=123) (et:=26) (P:=Tryz.prog) Tryz.underlying123 gU V t.n (.agg #[.int .i64 u.a,.int .i64 u.n,.slice s u.k.len y]);unfold eT at eo;have cy:=cZ G.bm;have t1:=eY Z;have u0:=cZ R;have u1:=eY R;have u2:=fu R;have zy:=af u0;have ne:∀{q:Nat} {c:Array Value} {ty:TypeId},Y.heap[q]? =some (.cells c ty (0,0))->q≠mb:=λ{q c ty} hq e=>by
     obtain⟨_,⟨_,_,h,_⟩,_⟩:=V;rw[<-e,hq]at h;cases h
    have kf:Fix (λq=>q=mb) w (Y.putObj mb o):=⟨A.os,A.tape,A.output,by simpa using A.size,λb d p=>(aA p).trans (A.block b d)⟩;have fF:Below B w (Y.putObj mb o):=dI (A.mono hB) N.o.le o;have S:Cd (Y.putObj mb o) B mb qm qf (λx=>if x=t.n then some u else M x):=by
     refine⟨⟨_,l6,λn=> ?_⟩,(aA (ne G.bm)).trans G.bm,(aA (ne G.bf)).trans G.bf,N.o.le⟩;by_cases hn:n=t.n
     ·simp only[aq hn];exact⟨_,rfl,_,rfl,HU.o.below fF lR⟩
     ·simp only[ah hn];have:=Ez n;cases Ou:M n with
      |none=>rw[Ou]at this;exact this
      |some r=>rw[Ou]at this;obtain⟨v,e,J⟩:=this;exact⟨v,e,J.below (dI (Below.refl B Y) N.o.le o) lR⟩
    have HA:=hI S;have HX:=hI kf;clear A Z R G V Ez l6 ne kf fF S;go_wp2;go_ret;exact⟨HX.o,.inl ⟨_,by rw[Hq.o];unfold Jt;rw[O.o],rfl,HA.o⟩⟩
   |some r=>
    rw[K]at D;obtain⟨v',D,sv',rfl,A⟩:=D;obtain⟨V,Z,rfl⟩:=A.slice;have O:=hI K;have l:=lp (w:=_) (T:=123) (et:=26) (P:=Tryz.prog) Tryz.underlying123 gU Q (k:=t.n) D true;simp only[if_true]at l;unfold eT at l;have E:=Below.cA ((w.alloc (.cells #[.int .i64 t.a,.int .i64 t.n,.slice C t.k.len sc] 26)).alloc (.cells #[.int .i64 u.a,.int .i64 u.n,.slice s u.k.len y] 26)) (.cells #[.int .i64 r.a,.int .i64 r.n,.slice V r.k.len Z] 26);have G:=ag g E lR;have R:=hI (Hr r.size r u (.agg #[.int .i64 r.a,.int .i64 r.n,.slice V r.k.len Z]) (.agg #[.int .i64 u.a,.int .i64 u.n,.slice s u.k.len y]) _ B lR ⟨_,rfl,A.below E (by have:=g.size;omega)⟩ ⟨_,rfl,hy.below G hB⟩ (by have:=G.size;omega));have oI:=hI G;clear U K Q D j H hy g I hm i E G A
    go_enter Tryz.func82,Tryz.ntmps82
    go_wp2_with fail
    refine R.o.mono ?_;rintro e w3 ⟨rfl,A⟩;have G:=ag oI.o A lR;have ir:=hI G;clear A G l R;go_wp2;go_ret;refine⟨Fix.cB ir.o,?_⟩;have J:yB t u M=if r=u then some M else none:=by rw[Hq.o];unfold Jt;rw[O.o]
    by_cases h:r=u
    ·exact .inl ⟨M,by rw[J,aq h],by unfold jh;rw[aI h];rfl,N.o.below ir.o hB⟩
    ·exact .inr ⟨by rw[J,ah h],by unfold jh;rw[aB h];rfl⟩
  ·have L:(t.a==1)=false:=by rw[beq_eq_false_iff_ne];exact i
   by_cases d:t.a=u.a
   case neg=>
    have V:(t.a==u.a)=false:=by simpa using d
    have Hq:Hd (yB t u M=none):=hI (by unfold yB;rw[ah i,ah λh=>d h.1]);clear j H hy g I hm i d;exact anZ
   have V:(t.a==u.a)=true:=by simpa using d
   by_cases p:t.n=u.n
   case neg=>
    have Z:(t.n==u.n)=false:=by simpa using p
    have Hq:Hd (yB t u M=none):=hI (by unfold yB;rw[ah i,ah λh=>p h.2]);clear j H hy g I hm i d p;exact anZ
   have Z:(t.n==u.n)=true:=by simpa using p
   have Hq:Hd (yB t u M=tg t.k u.k M):=hI (by unfold yB;rw[ah i,aq ⟨d,p⟩]);have K:∀args w,(callFunc 82 args).run Tryz.prog w=.ok (.enter 82 args) w:=enters_of Tryz.func82 (by kernel_rfl) rfl;obtain⟨N,Q,O⟩:=h_3 (Hs (B:=B) (mb:=mb) (qm:=qm) (qf:=qf) m) j.le hm;have D:B<=((w.alloc (.cells #[.int .i64 t.a,.int .i64 t.n,.slice C t.k.len sc] 26)).alloc (.cells #[.int .i64 u.a,.int .i64 u.n,.slice s u.k.len y] 26)).heap.size:=by have:=g.size;omega
   have R:=hI (QJ t.k u.k (.slice C t.k.len sc) (.slice s u.k.len y) 82 #[.pointer (some ⟨qm,0,none⟩),.pointer (some ⟨qf,0,none⟩)]
    (λk W=>∃G,Fix (λq=>q=mb) ((w.alloc (.cells #[.int .i64 t.a,.int .i64 t.n,.slice C t.k.len sc] 26)).alloc (.cells #[.int .i64 u.a,.int .i64 u.n,.slice s u.k.len y] 26)) W/\Cd W B mb qm qf G/\tg t.k u.k M=tg (t.k.drop k) (u.k.drop k) G)
    (λW=>Fix (λq=>q=mb) ((w.alloc (.cells #[.int .i64 t.a,.int .i64 t.n,.slice C t.k.len sc] 26)).alloc (.cells #[.int .i64 u.a,.int .i64 u.n,.slice s u.k.len y] 26)) W/\tg t.k u.k M=none) _ B K
    (λk W W' ⟨G,d,p,r⟩ A=>⟨G,d.below A,p.below A (by have:=d.size;omega),r⟩)
    (λk W ⟨G,d,_⟩=>by
     have A:=d.toBelow (n:=B) D (λb e=>by rw[e];exact Q.o);have E:B<=W.heap.size:=by have:=d.size;omega
     exact⟨HS.o.below A lR,HY.o.below A lR,E⟩)
    (λk E l W a b ⟨G,d,p,r⟩ i A=>by
     refine(N.o (t.k.at k) (u.k.at k) a b W G (by have:=Fo.eD E;have:=O.o;unfold Nd.size at*;omega) i A p (by have:=d.size;omega)).mono ?_;rintro e W' ⟨g1,g2⟩;rw[SB E (by omega)]at r;rcases g2 with⟨F,L,rfl,S⟩|⟨L,rfl⟩
     ·exact .inl ⟨rfl,F,d.trans g1,S,by rw[r,L];rfl⟩
     ·exact .inr ⟨rfl,d.trans g1,by rw[r,L];rfl⟩) ⟨M,Fix.refl _ _,X.o,by rw[Fo.drop_zero,Fo.drop_zero]⟩)
   clear j H hy g I hm i d p
   go_enter Tryz.func82,Tryz.ntmps82
   go_wp2_with (go_at_call 84;refine R.o.mono ?_;rintro e w3 (⟨rfl,l,G⟩|⟨rfl,G⟩))
   ·go_ret;obtain⟨F,g1,g2,g3⟩:=G;rw[Fo.ie lR,Fo.ie (by omega)]at g3;exact⟨(Fix.cB cR.o).trans g1,.inl ⟨F,by rw[Hq.o,g3];rfl,rfl,g2⟩⟩
   ·go_ret;rcases G with⟨l,F,g1,g2,g3⟩|⟨l,k,E,g1,g2⟩
    ·exact⟨(Fix.cB cR.o).trans g1,.inr ⟨by rw[Hq.o,LN l],rfl⟩⟩
    ·exact⟨(Fix.cB cR.o).trans g1,.inr ⟨by rw[Hq.o,g2],rfl⟩⟩
theorem Ow{W:World}{q B:Nat}{t:Nd}{a:Option Addr}{c:Nat}{T:TypeId}(h:W.heap[q]? =some (.cells #[.int .i64 t.a,.int .i64 t.n,.slice a t.k.len c] T (0,0)))(b:q<B)(d:dr W B (.slice a t.k.len c) t.k):dr W B (.slice (some ⟨q,0,none⟩) 1 1) t.one:=by
 obtain⟨ck,e,f⟩:=d;refine⟨λi=>(#[Value.int .i64 t.a,.int .i64 t.n,.slice a t.k.len c][i]?).getD undef,⟨by show 1<=_;decide,some ⟨q,0,none⟩,1,rfl,lR,by decide,λ_=>⟨q,0,rfl,b,λi hi=> ?_⟩⟩,rfl,rfl,⟨ck,e,f⟩,trivial⟩;have hi:i<3:=hi;rw[a8,cell_of_row _ _ _ _ _ _ h];rcases(by omega:i=0\/i=1\/i=2)with rfl|rfl|rfl<;>rfl
theorem LO{p:Nd->Bool}{F:Fo}{k:Nat}(h:k<F.len):(F.list.take (k+1)).all p=((F.list.take k).all p&&p (F.at k)):=by rw[Fo.Jq h,List.all_append];simp
theorem WB{p:Nd->Bool}{F:Fo}{k:Nat}(h:k<F.len)(hp:p (F.at k)=false):F.list.all p=false:=by
 rw[List.all_eq_false];exact⟨_,Fo.at_mem h,by rw[hp];decide⟩
theorem Ox(s:Sg)(a n:Int)(k:Fo)(ka:Option Addr)(kc:Nat)(f g:Option Addr)(cc i:Nat)(q:Nat)(w:World)(B:Nat)(c:w.heap[q]? =some (.cells #[.slice f s.cons.length cc,.slice g s.bj.length i] 39 (0,0)))
 (j:ku w B (.agg #[.slice f s.cons.length cc,.slice g s.bj.length i]) s) (d:dr w B (.slice ka k.len kc) k) (hB:B<=w.heap.size) (l:1+k.size<=1000000):
 aH Tryz.prog 234 #[.agg #[.int .i64 a,.int .i64 n,.slice ka k.len kc],.pointer (some ⟨q,0,none⟩)] w (.bool (dq s ⟨a,n,k⟩)):=by
 have c0:=cZ c;have c1:=eY c;have z0:=af c0;have b:=Below.cA w (.cells #[.int .i64 a,.int .i64 n,.slice ka k.len kc] 54);have m:=hI (Lx s ⟨a,n,k⟩ _ _ _ B (j.below b hB) ⟨_,rfl,d.below b hB⟩ (ai hB b.size) l);have o:=hI b;have p:=d.small;clear c j d b;unfold aH
 go_enter Tryz.func234,Tryz.ntmps234
 go_wp2_with fail
 refine m.o.mono ?_;rintro e j ⟨rfl,b⟩;have d:=hI (ag o.o b lR);clear b;go_wp2;go_ret;exact⟨rfl,d.o⟩
theorem Ju(s:Sg)(F:Fo)(v:Value)(b d:Option Addr)(cc f:Nat)(q:Nat)(w:World)(B:Nat)(n:w.heap[q]? =some (.cells #[.slice b s.cons.length cc,.slice d s.bj.length f] 39 (0,0)))
 (o:ku w B (.agg #[.slice b s.cons.length cc,.slice d s.bj.length f]) s) (p:dr w B v F) (hB:B<=w.heap.size) (r:∀i,i<F.len->(F.at i).size<=1000000):
 aH Tryz.prog 233 #[v,.func (.func 234) #[] #[.pointer (some ⟨q,0,none⟩)]] w (.bool (F.list.all (dq s))):=by
 obtain⟨c,t,g⟩:=p;refine(EM w.heap.size v F.len c 234 #[.pointer (some ⟨q,0,none⟩)]
  (λk X=>Below w.heap.size w X/\(F.list.take k).all (dq s)=true) (λk X=>Below w.heap.size w X/\F.list.all (dq s)=false) w lR
  (λk G=>by obtain⟨c0,c1,c2⟩:=g.at G;obtain⟨j,l,e⟩:=c2.slice;exact⟨_,_,_,_,_,c0,c1,e⟩) (enters_of Tryz.func234 (by kernel_rfl) rfl)
  (λk X u h a=>⟨ag h.1 a lR,h.2⟩)
  (λk X h=>(t.below h.1 hB).mono (ai hB h.1.size))
  (λk G X h=> ?_) ⟨bR,rfl⟩).mono ?_
 ·obtain⟨c0,c1,c2⟩:=g.at G;obtain⟨j,l,e⟩:=c2.slice;rw[c0,c1,e];rw[e]at c2;refine(Ox s _ _ (F.at k).k j l b d cc f q X B (cY h.1 n) (o.below h.1 hB) (c2.below h.1 hB) (ai hB h.1.size) (r k G)).mono ?_;rintro e u ⟨rfl,a⟩;cases m:dq s ⟨(F.at k).a,(F.at k).n,(F.at k).k⟩with
  |true=>exact .inl ⟨rfl,⟨ag h.1 a lR,by rw[LO G,h.2];exact m⟩,cq.cB a⟩
  |false=>exact .inr ⟨rfl,ag h.1 a lR,WB G m⟩
 ·exact anF
theorem yC(s:Sg)(F:Fo)(sv v:Value)(w:World)(B:Nat)(k:ku w B sv s)(a:dr w B v F)(hB:B<=w.heap.size)(l:∀i,i<F.len->(F.at i).size<=1000000):
 aH Tryz.prog 208 #[sv,v] w (.bool (fA s&&F.list.all (dq s))):=by
 have n:=hI k;have o:=hI a;obtain⟨cv,fv,rfl,hc,b⟩:=k;have r:=hc.small;have t:=b.small;have u:=a.small;obtain⟨d,cc,rfl⟩:=hc.slice;obtain⟨f,g,rfl⟩:=b.slice;obtain⟨x,y,rfl⟩:=a.slice;have G:=Below.cA w (.cells #[.slice d s.cons.length cc,.slice f s.bj.length g] 39);obtain⟨p,c,kV,j,q⟩:=h_5 (a_ w (.cells #[.slice d s.cons.length cc,.slice f s.bj.length g] 39)) (z_ s _ _ _ B (hc.below G hB) (b.below G hB) (ai hB G.size)) G hB l;have z:∀(fn:Fn) (first cap:Array Value) (w:World),(Instr.makeFunc fn first cap).run Tryz.prog w=.ok (.func fn first cap) w:=λ_ _ _ _=>rfl;clear hc b a G hB l;unfold aH;cases m:fA s with
 |false=>
  rw[m]at c
  go_enter Tryz.func208,Tryz.ntmps208
  go_wp2_with fail
  refine c.o.mono ?_;exact anu
 |true=>
  rw[m]at c
  go_enter Tryz.func208,Tryz.ntmps208
  go_wp2_with fail
  refine c.o.mono ?_;rintro e w2 ⟨rfl,hb⟩;have G:=ag kV.o hb lR;have b:=hI (Ju s F _ d f cc g w.heap.size w2 B (cY hb p.o) (n.o.below G j.o) (o.o.below G j.o) (ai j.o G.size) q.o);have cR:=hI G;clear hb G
  go_wp2_with fail
  refine b.o.mono ?_;exact anv
theorem E4(s:Sg)(t:Nd)(sv v:Value)(w:World)(B:Nat)(n:ku w B sv s)(u:cV w B v t)(hB:B<=w.heap.size)(x:t.size<=1000000):
 aH Tryz.prog 159 #[sv,v] w (.int .i64 (if fA s&&dq s t then 0 else 2)):=by
 have y:=hI n;obtain⟨cv,fv,rfl,hc,f⟩:=n;have z:=hc.small;have A:=f.small;obtain⟨g,cc,rfl⟩:=hc.slice;obtain⟨j,k,rfl⟩:=f.slice;obtain⟨kv,rfl,b⟩:=u;have C:=b.small;obtain⟨ka,kc,rfl⟩:=b.slice;obtain⟨c,d⟩:=xE (((w.alloc (.cells #[.slice g s.cons.length cc,.slice j s.bj.length k] 39)).alloc (.cells #[.int .i64 t.a,.int .i64 t.n,.slice ka t.k.len kc] 54)).alloc (.cells #[.int .i64 t.a,.int .i64 t.n,.slice ka t.k.len kc] 54));have a:=Below.F0 w (.cells #[.slice g s.cons.length cc,.slice j s.bj.length k] 39) (.cells #[.int .i64 t.a,.int .i64 t.n,.slice ka t.k.len kc] 54) (.cells #[.int .i64 t.a,.int .i64 t.n,.slice ka t.k.len kc] 54);have l:=(jf w (.cells #[.slice g s.cons.length cc,.slice j s.bj.length k] 39) (.cells #[.int .i64 t.a,.int .i64 t.n,.slice ka t.k.len kc] 54) (.cells #[.int .i64 t.a,.int .i64 t.n,.slice ka t.k.len kc] 54)).2.2;rw[<-d]at a l;have o:dr c c.heap.size (.slice (some ⟨w.heap.size+2,0,none⟩) 1 1) t.one:=Ow l (by rw[d];simp) ((b.below a hB).mono (ai hB a.size));have m:=hI (yC s t.one _ _ c c.heap.size ((y.o.below a hB).mono (ai hB a.size)) o lR (λi hi=>by
  obtain rfl:i=0:=by have:t.one.len=1:=rfl;omega
  exact x))
 have p:=hI a;have q:Hd ((if fA s&&dq s t then(0:Int)else 2)=if(fA s&&t.one.list.all (dq s))then 0 else 2):=hI (by
  have:t.one.list.all (dq s)=dq s t:=by unfold Nd.one Fo.list Fo.list;simp
  rw[this])
 rw[q.o];obtain⟨rb,r⟩:=xE (fA s&&t.one.list.all (dq s));rw[<-r]at m |-;rw[d]at m p;clear hc f b a l o q r d;unfold aH;cases rb
 all_goals
  go_enter Tryz.func159,Tryz.ntmps159
  go_wp2_with fail
  refine m.o.mono ?_;rintro e d ⟨rfl,a⟩;have b:=hI (ag p.o a lR);clear a;go_wp2;go_ret;exact⟨rfl,b.o⟩
attribute [local go_sem] Oper.semAt_some m7 wm
theorem rE{fn:Func}{p b:Tmp}{ty d:TypeId}(h:fn.results= #[.cell p ty,.cell b d]){tmps:Array Value}{P:Program}{w:World}{a c:Addr}{v v':Value}(hp:tmps.getD p undef=.pointer (some a))(e:tmps.getD b undef=.pointer (some c))(f:(loadVar ty a).run P w=.ok v w)(g:(loadVar d c).run P w=.ok v' w):
 (results fn tmps).run P w=.ok (.tuple #[v,v']) w:=by
 have q:tmps[p]?.getD undef=.pointer (some a):=by rw[<-hp];simp
 have i:tmps[b]?.getD undef=.pointer (some c):=by rw[<-e];simp
 simp[results,h,q,i,asAddr,f,g]
def p9:List Int->List Nd->Bool
 |_,[]=>true
 |met,x::l=>(x.a==1||x.a==3)&& !(x.a==1&&met.contains x.n)&&p9 (if x.a=1 then met++[x.n]else met) l
def gF(l:List Nd):List Int:=(l.filter λx=>x.a==1).map (·.n)
theorem SC(l:List Nd)(x:Nd):gF (l++[x])=if x.a=1 then gF l++[x.n]else gF l:=by
 unfold gF;rw[List.filter_append,bA];by_cases h:x.a=1
 ·rw[aq h];simp[h]
 ·rw[ah h];simp[h]
def rV(l:List (Nd×Int)):List Nd:=l.map (·.1)
theorem LP(l m:List (Nd×Int)):rV (l++m)=rV l++rV m:=bA
theorem WC(t:Nd):rV (lY 1 t)=dM t:=Lu 1 t
def aaF(M:List Int)(n:Int):Option Value:=if M.contains n then some (.bool true)else none
structure kE (W:World) (qm mb:Nat) (M:List Int):Prop where
 box:W.heap[qm]? =some (.cells #[.map (some mb)] 240 (0,0))
 map:eu eT W mb (aaF M)
theorem kE.below{W W':World}{qm mb:Nat}{M:List Int}(h:kE W qm mb M)(a:Below W.heap.size W W'):kE W' qm mb M:=
 ⟨cY a h.box,h.map.below a h.map.lt⟩
theorem kE.same{W W':World}{qm mb b:Nat}{M:List Int}(h:kE W qm mb M)(a:fM b W W')(c:qm≠b)(d:mb≠b):kE W' qm mb M:=
 ⟨(a.2.2.2.2 _ c).trans h.box,h.map.same λo e=>(a.2.2.2.2 _ d).trans e⟩
theorem kE.look{W:World}{qm mb:Nat}{M:List Int}(h:kE W qm mb M)(n:Int):(Instr.lookup 240 (.map (some mb)) (.int .i64 n) false).run Tryz.prog W=.ok (.bool (M.contains n)) W:=by
 cases a:M.contains n with
 |true=>exact lp (v:=.bool true) (et:=4) Tryz.underlying240 gU h.map (k:=n) (by unfold aaF;rw[aq a]) false
 |false=>exact pE (z:=.bool false) (et:=4) Tryz.underlying240 gU (λw=>by kernel_rfl) h.map (k:=n) (by unfold aaF;rw[ah (by rw[a];decide)]) false
theorem kE.put{W:World}{qm mb:Nat}{M:List Int}(h:kE W qm mb M)(n:Int):∃o,(Instr.mapUpdate 240 (.map (some mb)) (.int .i64 n) (.bool true)).run Tryz.prog W=.ok () (W.putObj mb o)/\kE (W.putObj mb o) qm mb (M++[n])/\o.isCells=false:=by
 obtain⟨o,d,f,g⟩:=run_set (T:=240) (et:=4) (P:=Tryz.prog) Tryz.underlying240 gU h.map n (.bool true);have eC:qm≠mb:=λe=>by obtain⟨_,⟨es,c,b,_⟩,_⟩:=h.map;rw[<-e,h.box]at b;cases b
 refine⟨o,d,⟨(aA eC).trans h.box,f.congr λk=> ?_⟩,g⟩;unfold aaF;by_cases a:k=n
 ·subst a;rw[aq rfl,aq (by simp)]
 ·rw[ah a];have:(M++[n]).contains k=M.contains k:=by rw[aP];simp;exact λe=>ay e a
  rw[this]
theorem SD(s:Sg)(t:Nd)(sv v:Value)(w:World)(B:Nat)(u:ku w B sv s)(R:cV w B v t)(hB:B<=w.heap.size)(Je:t.size<=1000000):
 Calls Tryz.prog 198 #[sv,v] w λe w'=>e=.returned (if fA s&&dq s t then .tuple #[.bool (p9 [] (dM t)),.int .i64 0]else .tuple #[.bool false,.int .i64 2])/\Below w.heap.size w w':=by
 have HS:Hd (ku w w.heap.size sv s):=hI (u.mono hB);have HV:=hI (R.mono hB);obtain⟨cv,fv,rfl,hc,C⟩:=u;obtain⟨ca,cc,rfl⟩:=hc.slice;obtain⟨fa,fc,rfl⟩:=C.slice;obtain⟨kv,rfl,y⟩:=R;have fK:=y.small;obtain⟨ka,kc,rfl⟩:=y.slice;obtain⟨rv,E⟩:∃rv:Value,rv=if fA s&&dq s t then .tuple #[.bool (p9 [] (dM t)),.int .i64 0]else .tuple #[.bool false,.int .i64 2]:=⟨_,rfl⟩;rw[<-E];obtain⟨K,a⟩:=xE (((((w.alloc (.cells #[.slice ca s.cons.length cc,.slice fa s.bj.length fc] 39)).alloc (.cells #[.int .i64 t.a,.int .i64 t.n,.slice ka t.k.len kc] 54)).alloc (.cells #[.bool false] 4)).alloc (.cells #[.int .i64 0] 30)).alloc (.cells #[.int .i64 t.a,.int .i64 t.n,.slice ka t.k.len kc] 54));have J:=Below.ahg w (.cells #[.slice ca s.cons.length cc,.slice fa s.bj.length fc] 39) (.cells #[.int .i64 t.a,.int .i64 t.n,.slice ka t.k.len kc] 54) (.cells #[.bool false] 4) (.cells #[.int .i64 0] 30) (.cells #[.int .i64 t.a,.int .i64 t.n,.slice ka t.k.len kc] 54);have qC:=GN w (.cells #[.slice ca s.cons.length cc,.slice fa s.bj.length fc] 39) (.cells #[.int .i64 t.a,.int .i64 t.n,.slice ka t.k.len kc] 54) (.cells #[.bool false] 4) (.cells #[.int .i64 0] 30) (.cells #[.int .i64 t.a,.int .i64 t.n,.slice ka t.k.len kc] 54);have z:K.heap.size=w.heap.size+5:=by rw[a];simp
 rw[<-a]at J qC;obtain⟨N,V,X,f,g⟩:=qC;have j:dr K K.heap.size (.slice (some ⟨w.heap.size+4,0,none⟩) 1 1) t.one:=Ow g (by omega) ((y.below J hB).mono (ai hB J.size));have I:=hI (yC s t.one _ _ K K.heap.size ((HS.o.below J lR).mono J.size) j lR (λi hi=>by
  obtain rfl:i=0:=by have:t.one.len=1:=rfl;omega
  exact Je))
 have l:(fA s&&t.one.list.all (dq s))=(fA s&&dq s t):=by
  exact an_
 rw[l]at I;obtain⟨N0,N1,N2,N3,fT,AM⟩:=h_6 N V X f J z;rw[a]at I;have WD:=hI a;clear y hc C J N V X f g z j l a;have CT:= @run_makeMap Tryz.prog;refine callsIn_wide.1 (callsIn_of_wp_marks (n:=0) Tryz.func198 rfl trivial (wpIn_wide.2 ?_) rfl);simp only[Tryz.ntmps198,List.size_toArray,aD,List.length_nil,Nat.reduceAdd,Nat.reduceSub,Array.replicate_succ,Array.replicate_zero,List.push_toArray,List.append_toArray,bL,bJ];cases S:(fA s&&dq s t)with
 |false=>
  rw[S]at I E;have T:=hI E;clear S E
  go_wp2_with fail
  refine I.o.mono ?_;rintro e g ⟨rfl,j⟩;rw[<-WD.o]at j;have q:=cY j N2.o;have r:=cY j N3.o;have c2:=cZ q;have f2:g.frozen? ⟨w.heap.size+1+1,0,none⟩=false:=by simp[World.frozen?,q]
  have c3:=cZ r;have f3:g.frozen? ⟨w.heap.size+1+1+1,0,none⟩=false:=by simp[World.frozen?,r]
  have z2:=af c2;have z3:=af c3;obtain⟨L,rJ,lZ⟩:=h_3 (ag fT.o j lR) q r;clear j q r;go_wp2;refine jF (v:=.tuple #[.bool false,.int .i64 2]) (rE rfl rfl rfl (dz Tryz.underlying4 rfl (v:=.bool false) ?_) (dz Tryz.underlying30 rfl (v:=.int .i64 2) ?_)) rfl ⟨?_,?_⟩
  ·rw[cell_of_row _ _ _ _ _ _ ((au _ _ _ _ (by simp)).trans (cz rJ.o))];rfl
  ·rw[cell_of_row _ _ _ _ _ _ (cz ((au _ _ _ _ (by simp)).trans lZ.o))];rfl
  rotate_left
  ·exact(L.o.setCell (p:=⟨w.heap.size+1+1,0,none⟩) (by show w.heap.size<=w.heap.size+1+1;omega) _).setCell (p:=⟨w.heap.size+1+1+1,0,none⟩) (by show w.heap.size<=w.heap.size+1+1+1;omega) _
  rw[T.o];rfl
 |true=>
  rw[S]at I E;have T:=hI E;clear S E
  go_wp2_with fail
  refine I.o.mono ?_;rintro e g ⟨rfl,j⟩;rw[<-WD.o]at j;have Y:=cY j N0.o;have J:=cY j N1.o;have q:=cY j N2.o;have r:=cY j N3.o;have N:=ag fT.o j lR;have V:w.heap.size+5<=g.heap.size:=by have:=j.size;have:=AM.o;omega
  have x0:=cZ J;have x1:=eY J;have A:=fu J;have F:=af x0;have zx2:w.heap.size<g.heap.size:=by omega
  go_wp2_with (go_at_call 229;refine(ET _ _ _ _ _ _ _ rfl).mono ?_;rintro e w' ⟨rfl,rfl⟩)
  obtain⟨l,z⟩:=xE (((g.alloc (.map #[] 0)).alloc (.cells #[.map (some g.heap.size)] 240)).alloc (.cells #[.int .i64 t.a,.int .i64 t.n,.slice ka t.k.len kc] 54));have y:=jf g (.map #[] 0) (.cells #[.map (some g.heap.size)] 240) (.cells #[.int .i64 t.a,.int .i64 t.n,.slice ka t.k.len kc] 54);have G:=Below.F0 g (.map #[] 0) (.cells #[.map (some g.heap.size)] 240) (.cells #[.int .i64 t.a,.int .i64 t.n,.slice ka t.k.len kc] 54);have X:l.heap.size=g.heap.size+3:=by rw[z];simp
  have M:kE l (g.heap.size+1) g.heap.size []:=by
   rw[z];refine⟨y.2.1,?_⟩;have h:=eu.new g eT;exact(h.below (ag (Below.cA _ _) (Below.cA _ _) lR) (by simp)).congr λk=>rfl
  rw[<-z]at y G |-;obtain⟨lX,kI,oy,jP,f,a,HMS⟩:=h_7 (cY G q) (cY G r) y.2.2 (ag N G lR) X V M;have HX:Hd (cV l w.heap.size (.agg #[.int .i64 t.a,.int .i64 t.n,.slice ka t.k.len kc]) t):=hI (HV.o.below jP.o lR);have m:∀(pre:List (Nd×Int)) W,(Fix (λb=>b=g.heap.size) l W/\kE W (g.heap.size+1) g.heap.size (gF (rV pre))/\∀post,pre++post=lY 1 t->p9 [] (dM t)=p9 (gF (rV pre)) (rV post))->Below w.heap.size l W:=λpre W h=>h.1.toBelow (by have:=f.o;omega) λb e=>by have:=a.o;omega
  have Sb:=hI m;clear y G X z m V N Y J q r x0 x1 A F j M;refine wpIn_wide.1 (Lv (n:=0) 255 #[.pointer (some ⟨g.heap.size+1+1,0,none⟩)] (λv v' (x:Nd×Int)=>cV l w.heap.size v x.1/\v'=.int .i64 x.2) (lY 1 t) rfl (enters_of Tryz.func255 (by kernel_rfl) rfl)
   (λpre W=>Fix (λb=>b=g.heap.size) l W/\kE W (g.heap.size+1) g.heap.size (gF (rV pre))/\∀post,pre++post=lY 1 t->p9 [] (dM t)=p9 (gF (rV pre)) (rV post))
   (λc pre W=>c=.ret/\W.heap[w.heap.size+2]? =some (.cells #[.bool false] 4 (0,0))/\W.heap[w.heap.size+3]? =some (.cells #[.int .i64 0] 30 (0,0))/\Below w.heap.size l W/\p9 [] (dM t)=false)
   (λpre W W' h j=>⟨h.1.below j,h.2.1.below j,h.2.2⟩)
   (λpre W W' h u=>⟨h.1.same u (by omega),h.2.1.same u (by have:=f.o;omega) (by have:=f.o;omega),h.2.2⟩)
   (λc pre W W' h u=>⟨h.1,(u.2.2.2.2 _ (by have:=f.o;have:=a.o;omega)).trans h.2.1,(u.2.2.2.2 _ (by have:=f.o;have:=a.o;omega)).trans h.2.2.1,sV h.2.2.2.1 u (by have:=f.o;have:=a.o;omega),h.2.2.2.2⟩)
   ⟨Fix.refl _ _,HMS.o,λpost hp=>by rw[<-WC t,<-hp];rfl⟩
   (λJ z V G _ X W N Y=>ac1 _ _ w.heap.size l (by have:=f.o;have:=a.o;omega) (by have:=f.o;have:=a.o;omega) (lY 1 t) J z V (λpre W h=>Sb.o pre W (G pre W h)) (λpre x d post v W he m A=>X pre (x,d) post v _ W he m ⟨A,rfl⟩) t ka t.k.len kc (g.heap.size+2) W HX.o rfl Je (((G _ _ N).1.block _ (by have:=f.o;omega) (by omega)).trans oy.o) N Y)
   ?round ?done ?stop)
  case round=>
   intro pre x post v v' W he hi R bO;obtain⟨⟨J,m,F⟩,U⟩:=x;obtain⟨⟨xv,rfl,Kb⟩,rfl⟩:=R;dsimp only at Kb |-;obtain⟨xa,xc,rfl⟩:=Kb.slice
   gi_wp2
   refine⟨Below.cA _ _,λW2 V=> ?_⟩;obtain⟨kf,M,SE⟩:=hi;have gS:=Below.cA W (.cells #[.int .i64 J,.int .i64 m,.slice xa F.len xc] 54);have X:=(kf.below gS).same V (by omega);have z:=(M.below gS).same V (by have:=f.o;omega) (by have:=f.o;omega);have y5:W2.heap[W.heap.size]? =some (.cells #[.int .i64 J,.int .i64 m,.slice xa F.len xc] 54 (0,0)):=(V.2.2.2.2 _ (by have:=kf.size;omega)).trans (a_ _ _);have Y:=(X.block _ (show w.heap.size+2<l.heap.size by have:=f.o;have:=a.o;omega) (by have:=a.o;omega)).trans lX.o;have Z:=(X.block _ (show w.heap.size+3<l.heap.size by have:=f.o;have:=a.o;omega) (by have:=a.o;omega)).trans kI.o;have hl:=z.look m;obtain⟨o,eo,N,_⟩:=z.put m;have x0:=cZ y5;have x1:=eY y5;have cm:=cZ z.box;have c2:=cZ Y;have f2:W2.frozen? ⟨w.heap.size+1+1,0,none⟩=false:=by simp[World.frozen?,Y]
   have c3:=cZ Z;have f3:W2.frozen? ⟨w.heap.size+1+1+1,0,none⟩=false:=by simp[World.frozen?,Z]
   have z0:=af x0;have zm:=af cm;have z2:=af c2;have z3:=af c3;have AH:=SE (((⟨J,m,F⟩:Nd),U)::post) he;rw[show rV ((((⟨J,m,F⟩:Nd),U))::post)=(⟨J,m,F⟩:Nd)::rV post from rfl]at AH;have Nh:Hd (p9 [] (dM t)=((J==1||J==3)&& !(J==1&&(gF (rV pre)).contains m)&&p9 (if J=1 then gF (rV pre)++[m]else gF (rV pre)) (rV post))):=hI AH;have rQ:Hd (gF (rV (pre++[((⟨J,m,F⟩:Nd),U)]))=if J=1 then gF (rV pre)++[m]else gF (rV pre)):=hI (by rw[LP];exact SC _ _);have O:Hd (∀H,(pre++[((⟨J,m,F⟩:Nd),U)])++H=lY 1 t->H=post):=hI λH h=>by
    exact aoj
   obtain⟨A,HM2,CW,RW,P⟩:=h_5 X z N Y Z;obtain⟨old,hold⟩:=xE ((gF (rV pre)).contains m);rw[<-hold]at hl;have Q:=hI hold;clear kf M SE gS X z N y5 Y Z V AH he hold;by_cases G:J=1
   ·have Z:(J==1)=true:=by rw[G];rfl
    have e2:(J != 1)=false:=by rw[G];rfl
    have H1:=hI G;clear G;cases old with
    |true=>
     gi_wp2
     refine⟨⟨by simp[World.setCell],λb Y j N=>(au _ _ _ _ (by have:=f.o;have:=a.o;show b≠w.heap.size+1+1+1;omega)).trans ((au _ _ _ _ (by have:=f.o;have:=a.o;show b≠w.heap.size+1+1;omega)).trans N)⟩,rfl,?_,?_,?_,by rw[Nh.o,<-Q.o];simp[H1.o]⟩
     ·exact(au _ _ _ _ (by simp)).trans ((cz RW.o).trans rfl)
     ·exact(cz ((au _ _ _ _ (by simp)).trans P.o)).trans rfl
     ·exact((A.o.toBelow (n:=w.heap.size) (by have:=f.o;have:=a.o;omega) (λb e=>by have:=a.o;omega)).setCell (p:=⟨w.heap.size+1+1,0,none⟩) (by show w.heap.size<=w.heap.size+1+1;omega) _).setCell (p:=⟨w.heap.size+1+1+1,0,none⟩) (by show w.heap.size<=w.heap.size+1+1+1;omega) _
    |false=>
     gi_wp2
     refine⟨⟨by simp,λb Y j N=>(aA (by have:=f.o;omega)).trans N⟩,?_,?_,?_⟩
     ·exact⟨A.o.os,A.o.tape,A.o.output,by simpa using A.o.size,λb V z=>(aA z).trans (A.o.block b V z)⟩
     ·rw[rQ.o,aq H1.o];exact CW.o
     ·intro H V;obtain rfl:=O.o H V;rw[Nh.o,rQ.o,<-Q.o,aq H1.o];simp[H1.o]
   ·have Z:(J==1)=false:=by rw[beq_eq_false_iff_ne];exact G
    have e2:(J != 1)=true:=gy G;by_cases z:J=3
    ·have e3:(J != 3)=false:=by rw[z];rfl
     have H1:=hI G;have X:=hI z;clear G z
     gi_wp2
     refine⟨cq.refl _ _,A.o,by rw[rQ.o,ah H1.o];exact HM2.o,?_⟩;intro H V;obtain rfl:=O.o H V;rw[Nh.o,rQ.o,ah H1.o];simp[X.o]
    ·have e3:(J != 3)=true:=gy z;have H1:=hI G;have X:=hI z;clear G z
     gi_wp2
     refine⟨⟨by simp[World.setCell],λb Y j N=>(au _ _ _ _ (by have:=f.o;have:=a.o;show b≠w.heap.size+1+1+1;omega)).trans ((au _ _ _ _ (by have:=f.o;have:=a.o;show b≠w.heap.size+1+1;omega)).trans N)⟩,rfl,?_,?_,?_,by rw[Nh.o];simp[H1.o,X.o]⟩
     ·exact(au _ _ _ _ (by simp)).trans ((cz RW.o).trans rfl)
     ·exact(cz ((au _ _ _ _ (by simp)).trans P.o)).trans rfl
     ·exact((A.o.toBelow (n:=w.heap.size) (by have:=f.o;have:=a.o;omega) (λb e=>by have:=a.o;omega)).setCell (p:=⟨w.heap.size+1+1,0,none⟩) (by show w.heap.size<=w.heap.size+1+1;omega) _).setCell (p:=⟨w.heap.size+1+1+1,0,none⟩) (by show w.heap.size<=w.heap.size+1+1+1;omega) _
  case done=>
   rintro D W X ⟨C,_,hp⟩ G;have q:=(C.block _ (show w.heap.size+2<l.heap.size by have:=f.o;have:=a.o;omega) (by have:=a.o;omega)).trans lX.o;have r:=(C.block _ (show w.heap.size+3<l.heap.size by have:=f.o;have:=a.o;omega) (by have:=a.o;omega)).trans kI.o;have c2:=cZ q;have f2:W.frozen? ⟨w.heap.size+1+1,0,none⟩=false:=by simp[World.frozen?,q]
   have c3:=cZ r;have f3:W.frozen? ⟨w.heap.size+1+1+1,0,none⟩=false:=by simp[World.frozen?,r]
   have z2:=af c2;have z3:=af c3;have J:Hd (p9 [] (dM t)=true):=hI (by rw[hp [] (by simp)];rfl);obtain⟨L,rJ,lZ,N⟩:=h_4 ((jP.o).trans (C.toBelow (n:=w.heap.size) (by have:=f.o;have:=a.o;omega) (λb e=>by have:=a.o;omega))) q r G;clear C hp G q r;go_wp2;refine iZ (v:=.tuple #[.bool true,.int .i64 0]) D ((au _ _ _ _ (by show D≠w.heap.size+1+1+1;have:=f.o;have:=a.o;omega)).trans ((au _ _ _ _ (by show D≠w.heap.size+1+1;have:=f.o;have:=a.o;omega)).trans N.o)) (rE rfl rfl rfl (dz Tryz.underlying4 rfl (v:=.bool true) ?_) (dz Tryz.underlying30 rfl (v:=.int .i64 0) ?_)) rfl ⟨?_,?_⟩
   ·rw[gZ (by have:=f.o;have:=a.o;omega),cell_of_row _ _ _ _ _ _ ((au _ _ _ _ (by simp)).trans (cz rJ.o))];rfl
   ·rw[gZ (by have:=f.o;have:=a.o;omega),cell_of_row _ _ _ _ _ _ (cz ((au _ _ _ _ (by simp)).trans lZ.o))];rfl
   ·rw[T.o,J.o];rfl
   ·exact dI ((L.o.setCell (p:=⟨w.heap.size+1+1,0,none⟩) (by show w.heap.size<=w.heap.size+1+1;omega) _).setCell (p:=⟨w.heap.size+1+1+1,0,none⟩) (by show w.heap.size<=w.heap.size+1+1+1;omega) _) (by have:=f.o;have:=a.o;omega) _
  case stop=>
   rintro D c pre W X ⟨rfl,J,z,j,V⟩ G;have c2:=cZ J;have c3:=cZ z;obtain⟨L,N,Y⟩:=h_3 j G V;clear j G V J z
   gi_wp2
   refine iZ (v:=.tuple #[.bool false,.int .i64 0]) D N.o (rE rfl rfl rfl (dz Tryz.underlying4 rfl (v:=.bool false) ?_) (dz Tryz.underlying30 rfl (v:=.int .i64 0) ?_)) rfl ⟨?_,?_⟩
   ·rw[gZ (by have:=f.o;have:=a.o;omega)];exact c2
   ·rw[gZ (by have:=f.o;have:=a.o;omega)];exact c3
   ·rw[T.o,Y.o];rfl
   ·exact dI (jP.o.trans L.o) (by have:=f.o;have:=a.o;omega) _
end
section
open Go Go.ChangeMaps Go.MapKept Go.Maps Go.RowKit
def um(w:World)(mb r:Nat)(M:List (Int×Value))(done:List Int):Prop:=∃(es:Array MapEntry) (c since:Nat) (seen:Array Nat) (c0:Nat),w.heap[mb]? =some (.map es c)/\es.toList.map (λe=>(e.key,e.val))=M.map (λx=>(eT x.1,x.2))/\
 (es.toList.map (·.born)).Nodup/\w.heap[r]? =some (.mapIter (some mb) since seen c0)/\(∀x∈es.toList,x.born<since)/\since<=c0/\since<=c/\(M.map (·.1)).Nodup/\
 ∀i (h:i<es.toList.length) (h':i<M.length),seen.contains es.toList[i].born=done.contains M[i].1
theorem um.ne{w:World}{mb r:Nat}{M:List (Int×Value)}{done:List Int}(h:um w mb r M done):r≠mb/\mb<w.heap.size/\r<w.heap.size:=by
 obtain⟨es,c,since,seen,c0,b,_,_,a,_⟩:=h;refine⟨λe=> ?_,(gE b).1,(gE a).1⟩;subst e;rw[b]at a;cases a
theorem um.same{w w':World}{mb r:Nat}{M:List (Int×Value)}{done:List Int}(h:um w mb r M done)(g:∀o,w.heap[mb]? =some o->w'.heap[mb]? =some o)(i:∀o,w.heap[r]? =some o->w'.heap[r]? =some o):um w' mb r M done/\w'.rangeLeft mb r=w.rangeLeft mb r:=by
 obtain⟨es,c,since,seen,c0,e,a,b,f,d⟩:=h;refine⟨⟨es,c,since,seen,c0,g _ e,a,b,i _ f,d⟩,?_⟩;unfold World.rangeLeft;rw[e,f,g _ e,i _ f]
theorem um.start{P:Program}{w:World}{mb:Nat}{M:List (Int×Value)}{T k e:TypeId}(b:P.underlying T=some (.map k e))(h:wP eT w mb M)(d:(M.map (·.1)).Nodup):
 ∃o,(Instr.range T (.map (some mb))).run P w=.ok (.pointer (some ⟨w.heap.size,0,none⟩)) (w.alloc o)/\um (w.alloc o) mb w.heap.size M []:=by
 have f:=h.lt;obtain⟨es,c,a,g,j,l⟩:=h;refine⟨_,run_range_map w T k e mb es c b a,es,c,c,#[],c,bQ a (Below.cA _ _) f,g,j,a_ _ _,l,lR,lR,d,λi h h'=>by simp⟩
theorem E5{α:Type}{l:List α}(h:l.Nodup){i j:Nat}(hi:i<l.length)(b:j<l.length)(e:l[i]=l[j]):i=j:=by
 rcases Nat.lt_trichotomy i j with a|a|a
 ·exact ay e (List.pairwise_iff_getElem.1 h i j hi b a)
 ·exact a
 ·exact ay e.symm (List.pairwise_iff_getElem.1 h j i b hi a)
theorem ad9{L:List MapEntry}{M:List (Int×Value)}(h:L.map (λe=>(e.key,e.val))=M.map (λx=>(eT x.1,x.2))){i:Nat}(hi:i<L.length)(b:i<M.length):L[i].key=eT M[i].1/\L[i].val=M[i].2:=by
 have a:(L.map (λe=>(e.key,e.val)))[i]'(by simpa using hi)=(M.map (λx=>(eT x.1,x.2)))[i]'(by simpa using b):=by simp only[h]
 simp only[List.getElem_map,Prod.mk.injEq]at a;exact a
theorem um.next{P:Program}{w:World}{mb r:Nat}{M:List (Int×Value)}{done:List Int}(h:um w mb r M done)(ty:TypeId):
 ((∀x∈M,x.1∈done)/\(Instr.next (.pointer (some ⟨r,0,none⟩)) false ty).run P w=.ok (.tuple #[.bool false]) w)\/
 ∃(k:Int) (v:Value) (w':World),(k,v)∈M/\k ∉ done/\(Instr.next (.pointer (some ⟨r,0,none⟩)) false ty).run P w=.ok (.tuple #[.bool true,.int .i64 k,v]) w'/\um w' mb r M (done++[k])/\w.grownBy w' (some r)/\w'.heap.size=w.heap.size/\w'.rangeLeft mb r<w.rangeLeft mb r/\
  (Instr.entry (.pointer (some ⟨r,0,none⟩))).run P w'=.ok (.tuple #[.int .i64 k,v]) w':=by
 have eC:=h.ne.1;obtain⟨es,c,since,seen,c0,l,m,n,o,hold,D,d,y,p⟩:=h;have hlen:es.toList.length=M.length:=by have:=congrArg List.length m;simpa using this
 rcases run_next_at (P:=P) w ty r mb since c0 seen es c o l hold D with⟨E,s⟩|⟨e,he,w1,l5,s⟩
 ·refine .inl ⟨λx b=> ?_,s⟩;obtain⟨i,hi,rfl⟩:=bC.1 b;have a:i<es.toList.length:=by omega
  have b:=all_seen es seen E es.toList[i] (aR a);rw[p i a hi]at b;simpa using b
 ·obtain⟨f,F⟩:=mem_left he;obtain⟨i,hi,rfl⟩:=bC.1 f;have a:i<M.length:=by omega
  obtain⟨z,A⟩:=ad9 m hi a;have G:w1.heap[r]? =some (.mapIter (some mb) since seen c0):=by rcases l5 with rfl|rfl<;>exact o
  have H:w1.heap[mb]? =some (.map es c):=by rcases l5 with rfl|rfl<;>exact l
  have g:=heap_set (o':=.mapIter (some mb) since (seen.push es.toList[i].born) c) G;have t:(setBlock w1 r (.mapIter (some mb) since (seen.push es.toList[i].born) c)).heap[mb]? =some (.map es c):=(g.2 mb (λb=>eC b.symm)).trans H;refine .inr ⟨M[i].1,M[i].2,_,aR a,?_,by rw[s,z,A];rfl,⟨es,c,since,seen.push es.toList[i].born,c,t,m,n,g.1,hold,d,d,y,λj B C=> ?_⟩,?_,?_,?_,?_⟩
  ·have:=p i hi a;rw[F]at this;intro hc;rw[bh.2 hc]at this;cases this
  ·rw[contains_push,p j B C];by_cases u:j=i
   ·subst u;simp
   ·have I:(es.toList[j].born==es.toList[i].born)=false:=by
     rw[beq_eq_false_iff_ne];intro b;exact u (E5 n (by simpa using B) (by simpa using hi) (by simpa using b))
    have J:M[j].1≠M[i].1:=λb=>u (E5 y (by simpa using C) (by simpa using a) (by simpa using b));rw[I,Bool.or_false,aP];simp[J]
  ·rcases l5 with rfl|rfl<;>exact⟨rfl,rfl,rfl,by simp[setBlock],λq _ u=>g.2 q (λb=>u (by rw[b]))⟩
  ·rcases l5 with rfl|rfl<;>simp[setBlock]
  ·have u:(setBlock w1 r (.mapIter (some mb) since (seen.push es.toList[i].born) c)).heap[r]? =some (.mapIter (some mb) since (seen.push es.toList[i].born) c):=g.1;unfold World.rangeLeft;rw[l,o,t,u];exact left_shrinks es seen _ he
  ·have:=run_entry_at (P:=P) _ r mb since seen es c es.toList[i] g.1 t f n;rw[this,z,A];rfl
end
section
open Go Go.Maps Go.RowKit
attribute [local go_sem] aT cW df
def wW:Bool->Int->Nat->Fo->Int->Bool
 |_,_,_,.nil,_=>false
 |c,n,i,.cons a m k r,x=>((if a=1 then x==m else wW (a==8) m 0 k x)&& !(c&&i==1&&x==n))||wW c n (i+1) r x
def Dq(t:Nd)(x:Int):Bool:=if t.a=1 then x==t.n else wW (t.a==8) t.n 0 t.k x
theorem E6{c:Bool}{n:Int}{F:Fo}{j i:Nat}{x:Int}(h:j<F.len):wW c n i (F.drop j) x=((Dq (F.at j) x&& !(c&&i==1&&x==n))||wW c n (i+1) (F.drop (j+1)) x):=by
 rw[Fo.mr h];rfl
def SG(S:Int->Bool)(n:Int):Option Value:=if S n then some (.bool true)else none
def fE(w:World)(mb:Nat)(S:Int->Bool):Prop:=eu eT w mb (SG S)
theorem fE.below{w w':World}{mb:Nat}{S:Int->Bool}(h:fE w mb S)(a:Below w.heap.size w w'):fE w' mb S:=eu.below h a h.lt
theorem fE.same{w w':World}{mb:Nat}{S:Int->Bool}(h:fE w mb S)(a:∀o,w.heap[mb]? =some o->w'.heap[mb]? =some o):fE w' mb S:=eu.same h a
theorem fE.congr{w:World}{mb:Nat}{S S':Int->Bool}(h:fE w mb S)(e:∀x,S x=S' x):fE w mb S':=eu.congr h λk=>by unfold SG;rw[e]
theorem fE.new(w:World):fE (w.alloc (.map #[] 0)) w.heap.size (λ_=>false):=(eu.new w eT).congr λk=>rfl
theorem fE.put{W:World}{mb:Nat}{S:Int->Bool}(h:fE W mb S)(n:Int):∃o,(Instr.mapUpdate 250 (.map (some mb)) (.int .i64 n) (.bool true)).run Tryz.prog W=.ok () (W.putObj mb o)/\fE (W.putObj mb o) mb (λx=>S x||x==n):=by
 obtain⟨o,b,c,e⟩:=run_set (T:=250) (et:=4) (P:=Tryz.prog) Tryz.underlying250 gU h n (.bool true);refine⟨o,b,c.congr λk=> ?_⟩;unfold SG;by_cases a:k=n
 ·subst a;simp
 ·have d:(k==n)=false:=by simpa using a
  simp only[ah a,d,Bool.or_false]
theorem fE.del{W:World}{mb:Nat}{S:Int->Bool}(h:fE W mb S)(n:Int)(ty:TypeId):∃o,(Builtin.delete_ #[250,3] ty #[.map (some mb),.int .i64 n]).run Tryz.prog W=.ok (.tuple #[]) (W.putObj mb o)/\fE (W.putObj mb o) mb (λx=>S x&& !(x==n)):=by
 obtain⟨o,b,c,e⟩:=ZU (T:=250) (et:=4) (P:=Tryz.prog) Tryz.underlying250 gU h n ty;refine⟨o,b,c.congr λk=> ?_⟩;unfold SG;by_cases a:k=n
 ·subst a;simp
 ·have d:(k==n)=false:=by simpa using a
  simp only[ah a,d,Bool.not_false,Bool.and_true]
theorem fE.list{w:World}{mb:Nat}{S:Int->Bool}(h:fE w mb S):∃M:List (Int×Value),wP eT w mb M/\(M.map (·.1)).Nodup/\(∀x∈M,x.2=.bool true)/\∀k,k∈M.map (·.1)↔S k=true:=by
 obtain⟨M,l,c,d⟩:=h;have e:∀k,k∈M.map (·.1)↔S k=true:=λk=>by
  have:=d k;unfold SG at this;constructor
  ·intro hm;cases a:S k with
   |true=>rfl
   |false=>rw[a]at this;exact ay hm (x_.1 (by simpa using this))
  ·intro a;rw[a]at this;have eC:¬pz M k=none:=by rw[this];simp
   rw[x_]at eC;exact Classical.not_not.1 eC
 refine⟨M,l,c,λx f=> ?_,e⟩;have m:S x.1=true:=(e x.1).1 (aN.2 ⟨x,f,rfl⟩);have:=d x.1;unfold SG at this;rw[m]at this;have hm:=RH this;obtain⟨i,hi,g⟩:=bC.1 f;obtain⟨j,n,a⟩:=bC.1 hm;have b:i=j:=E5 c (by simpa using hi) (by simpa using n) (by simp[g,a]);subst b;rw[g]at a;rw[a]
theorem Hu:∀(m:Nat) (t:Nd) (v:Value) (w:World) (B mb:Nat) (S:Int->Bool),t.size<=m->cV w B v t->B<=w.heap.size->fE w mb S->B<=mb->
 Calls Tryz.prog 236 #[.map (some mb),v] w λe w'=>e=.returned (.tuple #[])/\fE w' mb (λx=>S x||Dq t x)/\Fix (λq=>q=mb) w w'
 |0,t,_,_,_,_,_,h,_,_,_,_=>ay h (by unfold Nd.size;omega)
 |m+1,⟨a,n,k⟩,v,w,B,mb,S,hm,J,hB,g,K=>by
  obtain⟨kv,rfl,l⟩:=J;have fK:=l.small;obtain⟨ka,kc,rfl⟩:=l.slice;obtain⟨c,z⟩:=qS w (.cells #[.int .i64 a,.int .i64 n,.slice ka k.len kc] 54);have A:=g.lt;by_cases d:a=1
  ·have e1:(a==1)=true:=by rw[d];rfl
   obtain⟨o,L,G⟩:=(g.below c).put n;have f:=hI (G.congr (S':=λx=>S x||Dq ⟨a,n,k⟩ x) λx=>by unfold Dq;rw[aq d]);have HF:Hd (Fix (λq=>q=mb) w ((w.alloc (.cells #[.int .i64 a,.int .i64 n,.slice ka k.len kc] 54)).putObj mb o)):=hI ⟨c.os,c.tape,c.output,by simp,λb h1 h2=>(aA h2).trans (c.block b h1)⟩;clear l c z g G d hm
   go_enter Tryz.func236,Tryz.ntmps236
   go_wp2;refine bodyPost_ret (results_none rfl _ _ _) rfl ?_;exact⟨rfl,f.o,HF.o⟩
  ·have e1:(a==1)=false:=by rw[beq_eq_false_iff_ne];exact d
   have N:=hI (Hu m);have C:Hd (∀x,Dq ⟨a,n,k⟩ x=wW (a==8) n 0 k x):=hI λx=>by unfold Dq;rw[ah d]
   obtain⟨O,r,Q,R,Zo,U,W,X⟩:=h_8 l hB hm K A (g.below c) c z;have CT:= @run_makeMap Tryz.prog;clear l c z g d hm
   go_enter Tryz.func236,Tryz.ntmps236
   go_wp2;refine eR (λY=>Fix (λq=>q=mb) w Y/\Y.heap[w.heap.size]? =some (.cells #[.int .i64 a,.int .i64 n,.slice ka k.len kc] 54 (0,0))/\fE Y mb S) ⟨Fix.cB W.o,X.o,U.o⟩ ?_;rintro Y ⟨G,f,s⟩;obtain⟨Z,KY,SY⟩:=h_3 G f s;clear G f s
   go_loopw [17] (λi wr=>∃(j:Nat) (S':Int->Bool),j<=k.len/\i=.int .i64 j/\Fix (λq=>q=mb) w wr/\wr.heap[w.heap.size]? =some (.cells #[.int .i64 a,.int .i64 n,.slice ka k.len kc] 54 (0,0))/\fE wr mb S'/\∀x,(S x||wW (a==8) n 0 k x)=(S' x||wW (a==8) n j (k.drop j) x)) (λi _=>k.len-(intOf i).toNat)
   case atStart=>exact⟨0,S,aw _,rfl,Z.o,KY.o,SY.o,λx=>by rw[Fo.drop_zero]⟩
   case round=>
    obtain⟨j,S',hj,rfl,u,s,G,f⟩:=hrel;obtain⟨HF,Nn,Zr,HSE⟩:=h_4 u s G f;have d0:=cZ s;have d1:=eY s;have zd:=af d0;clear u s G f;by_cases D:j<k.len
    ·have dL:=hI D;have F:Below B w wr:=HF.o.toBelow r.o (λb e=>by rw[e];exact R.o);obtain⟨b,off,cap,p,s,he,alT,c0,c1,c2,H⟩:=dC O.o F D;cases he;have Gl:b<wr.heap.size:=by have:=HF.o.size;have:=r.o;omega
     have KZ:(j:Int)<(k.len:Int):=by omega
     obtain⟨V,G⟩:=xE ((wr.alloc (.cells #[.int .i64 (k.at j).a,.int .i64 (k.at j).n,.slice p (k.at j).k.len s] 54)).alloc (.map #[] 0));have u:=Below.jE wr (.cells #[.int .i64 (k.at j).a,.int .i64 (k.at j).n,.slice p (k.at j).k.len s] 54) (.map #[] 0);have f:fE V (wr.heap.size+1) (λ_=>false):=by
      rw[G];have:=fE.new (wr.alloc (.cells #[.int .i64 (k.at j).a,.int .i64 (k.at j).n,.slice p (k.at j).k.len s] 54));simpa using this
     have I:V.heap.size=wr.heap.size+2:=by rw[G];simp
     rw[<-G]at u;obtain⟨E,qW,HVS⟩:=h_3 (N.o (k.at j) (.agg #[.int .i64 (k.at j).a,.int .i64 (k.at j).n,.slice p (k.at j).k.len s]) V B (wr.heap.size+1) (λ_=>false) (by have:=Fo.eD D;have:=Q.o;unfold Nd.size at*;simp only at*;omega) ⟨_,rfl,H.below u (by have:=HF.o.size;have:=r.o;omega)⟩ (by have:=HF.o.size;have:=r.o;omega) f (by have:=HF.o.size;have:=r.o;omega)) u I;rw[G]at E;have HV:=hI G;clear F H u f I G
     go_wp2_with fail
     refine E.o.mono ?_;rintro e F ⟨rfl,H,G⟩;rw[<-HV.o]at G;have u:F.heap[w.heap.size]? =some (.cells #[.int .i64 a,.int .i64 n,.slice (some ⟨b,off,none⟩) k.len kc] 54 (0,0)):=(G.block _ (by have:=HVS.o;omega) (by omega)).trans (bQ Nn.o qW.o (by omega));have d0:=cZ u;have d1:=eY u;have z3:=af d0;have I:=hI (H.congr (S':=λx=>Dq (k.at j) x) λx=>by rw[Bool.false_or]);have f:=hI G;clear H G u E;by_cases fS:a=8/\j=1
     ·obtain⟨rfl,rfl⟩:=fS;obtain⟨o,L,G⟩:=I.o.del n 0;have EI:Hd (Fix (λq=>q=wr.heap.size+1) V (F.putObj (wr.heap.size+1) o)):=hI ⟨f.o.os,f.o.tape,f.o.output,by simpa using f.o.size,λb h1 h2=>(aA h2).trans (f.o.block b h1 h2)⟩;have iV:=hI (G.congr (S':=λx=>Dq (k.at 1) x&& !((8:Int)==8&&1==1&&x==n)) λx=>by simp);clear G
      go_upto_region 10 with fail
      refine eR (λY=>Fix (λq=>q=wr.heap.size+1) V Y/\fE Y (wr.heap.size+1) (λx=>Dq (k.at 1) x&& !((8:Int)==8&&1==1&&x==n))) ⟨EI.o,iV.o⟩ ?_;rintro W4 ⟨f4,s4⟩;obtain⟨M,hM,Ou,Zs,Ui⟩:=s4.list;obtain⟨o4,eo4,Zt⟩:=um.start (P:=Tryz.prog) (T:=250) Tryz.underlying250 hM Ou;have dV:=Below.cA W4 o4;have Cf:Fix (λq=>q=wr.heap.size+1) wr W4:=(Fix.cB qW.o).trans f4;have LQ:wr.heap.size+2<=W4.heap.size:=by have:=f4.size;have:=HVS.o;omega
      have E7:mb<wr.heap.size:=by have:=Zo.o;have:=HF.o.size;omega
      have Bc:fE (W4.alloc o4) mb S':=(Zr.o.same λo ho=>(Cf.block mb E7 (by omega)).trans ho).below dV;have LR:(W4.alloc o4).heap[w.heap.size]? =some (.cells #[.int .i64 (8),.int .i64 n,.slice (some ⟨b,off,none⟩) k.len kc] 54 (0,0)):=bQ ((Cf.block _ zd (by omega)).trans Nn.o) dV (by omega);have sW:Fix (λq=>q=mb) w (W4.alloc o4):=⟨dV.os.trans (Cf.os.trans HF.o.os),dV.tape.trans (Cf.tape.trans HF.o.tape),dV.output.trans (Cf.output.trans HF.o.output),by have:=HF.o.size;have:=dV.size;omega,λq h1 h2=>(dV.block q (by have:=HF.o.size;omega)).trans ((Cf.block q (by have:=HF.o.size;omega) (by have:=HF.o.size;omega)).trans (HF.o.block q h1 h2))⟩;obtain⟨HR4,HSM,Hv,WG,HMK,Oy⟩:=h_6 Zt Bc sW LR Ui Zs;have oJ:Hd (wr.heap.size+2<=W4.heap.size/\mb<wr.heap.size/\w.heap.size<wr.heap.size):=hI ⟨LQ,E7,zd⟩;clear f4 s4 hM Ou Zs Ui dV Cf LQ E7 Bc LR sW Zt;go_wp2;clear eo4;obtain⟨wo,E8⟩:=xE wr;subst E8
      go_loopw [7] (λ_ wi=>∃done,um wi (wo.heap.size+1) W4.heap.size M done/\fE wi mb (λx=>S' x||done.contains x)/\Fix (λq=>q=mb\/q=W4.heap.size) (W4.alloc o4) wi/\∀y∈done,y∈M.map (·.1)) (λ_ wi=>wi.rangeLeft (wo.heap.size+1) W4.heap.size)
      case atStart=>exact⟨[],HR4.o,HSM.o.congr λx=>by simp,Fix.refl _ _,λy hy=>by cases hy⟩
      case round=>
       obtain⟨done,AS,Jo,kg,CY⟩:=hrel;have Uj:=hI CY;have E9:wr.heap[w.heap.size]? =some (.cells #[.int .i64 (8),.int .i64 n,.slice (some ⟨b,off,none⟩) k.len kc] 54 (0,0)):=(kg.block _ (by have:=oJ.o;simp;omega) (by have:=oJ.o;omega)).trans WG.o;obtain⟨WH,qD,HSI⟩:=h_3 E9 kg Jo;rcases AS.next (P:=Tryz.prog) 0 with⟨bW,Af⟩|⟨key,ad_,w7,oz,yf,Af,Oz,Bw,hz7,E_,aea⟩
       ·have dK:=hI bW;clear AS Jo kg CY E9 bW;go_wp2
        go_roundw
        case rel=>
         refine⟨1+1,λx=>S' x||done.contains x,dL.o,by go_num,?_,WH.o,HSI.o,λx=> ?_⟩
         ·exact⟨qD.o.os.trans Hv.o.os,qD.o.tape.trans Hv.o.tape,qD.o.output.trans Hv.o.output,by have:=qD.o.size;have:=Hv.o.size;omega,λq h1 h2=>(qD.o.block q (by have:=Hv.o.size;omega) (by have:=oJ.o;omega)).trans (Hv.o.block q h1 h2)⟩
         ·rw[HSE.o x,E6 dL.o];have e1:done.contains x=(Dq (k.at 1) x&& !((8:Int)==8&&1==1&&x==n)):=by
           rw[aP,bh,<-HMK.o x];constructor
           ·exact Uj.o x
           ·intro hx;obtain⟨y,hy,rfl⟩:=aN.1 hx;exact dK.o y hy
          show _=((S' x||done.contains x)||_);rw[e1,Bool.or_assoc]
        case measure=>have:=dL.o;simp[intOf];omega
       ·obtain rfl:=Oy.o _ oz;have WI:fE w7 mb (λx=>S' x||done.contains x):=Jo.same λo ho=>(Bw.block mb (gE ho).1 (λe=>by cases e;have:=oJ.o;omega)).trans ho;obtain⟨o7,eo7,hs8⟩:=WI.put key;have eC:=Oz.ne;have hm7:=WI.lt;obtain⟨WJ,WK⟩:=Oz.same (w':=w7.putObj mb o7) (λo ho=>(aA (by have:=oJ.o;omega)).trans ho) (λo ho=>(aA (by have:=oJ.o;omega)).trans ho);have WL:Fix (λq=>q=mb\/q=W4.heap.size) (W4.alloc o4) (w7.putObj mb o7):=⟨Bw.os.trans kg.os,Bw.tape.trans kg.tape,Bw.output.trans kg.output,by have:=Bw.size;have:=kg.size;simp;simp at this;omega,λq h1 h2=>(aA (λe=>h2 (.inl e))).trans ((Bw.block q (by have:=kg.size;omega) (λe=>h2 (.inr (by cases e;rfl)))).trans (kg.block q h1 h2))⟩;obtain⟨HF8,HR8,HL8,HS8,OC⟩:=h_5 WL WJ (show(w7.putObj mb o7).rangeLeft (wo.heap.size+1) W4.heap.size<wr.rangeLeft (wo.heap.size+1) W4.heap.size by rw[WK];exact E_) hs8 oz;clear AS Jo kg CY E9 oz yf Oz Bw hz7 E_ WI hs8 eC WJ WK WL;go_wp2
        go_roundw
        case rel=>exact⟨done++[key],HR8.o,HS8.o.congr λx=>by rw[Bool.or_assoc];congr 1;rw[aP];simp,HF8.o,λy hy=>by
         rcases aQ.1 hy with hy|hy
         ·exact Uj.o y hy
         ·rw[aJ.1 hy];exact aN.2 ⟨_,OC.o,rfl⟩⟩
        case measure=>exact HL8.o
     ·have EI:=hI f.o;have iV:=hI (I.o.congr (S':=λx=>Dq (k.at j) x&& !(a==8&&j==1&&x==n)) λx=>by
       have:(a==8&&j==1)=false:=by
        rw[Bool.and_eq_false_iff];by_cases h:a=8
        ·exact .inr (by rw[beq_eq_false_iff_ne];exact λe=>fS ⟨h,e⟩)
        ·exact .inl (by rw[beq_eq_false_iff_ne];exact h)
       rw[this];simp)
      by_cases h8:a=8
      ·have u:(a==8)=true:=by rw[h8];rfl
       have H:((j:Int)==1)=false:=by rw[beq_eq_false_iff_ne];exact λe=>fS ⟨h8,by omega⟩
       exact aml
      ·have u:(a==8)=false:=by rw[beq_eq_false_iff_ne];exact h8
       exact aml
    ·obtain rfl:j=k.len:=by omega
     go_wp2
     go_end0
     exact⟨rfl,Zr.o.congr λx=>by rw[C.o,HSE.o x,Fo.ie lR];simp[wW],HF.o⟩
theorem OD(t:Nd)(v:Value)(w:World)(B:Nat)(i:cV w B v t)(hB:B<=w.heap.size):
 Calls Tryz.prog 209 #[v] w λe w'=>∃mb,e=.returned (.map (some mb))/\fE w' mb (Dq t)/\Below w.heap.size w w'/\w.heap.size<=mb:=by
 have l:=hI i;obtain⟨kv,rfl,f⟩:=i;have m:=f.small;obtain⟨ka,kc,rfl⟩:=f.slice;obtain⟨V,a⟩:=xE ((w.alloc (.cells #[.int .i64 t.a,.int .i64 t.n,.slice ka t.k.len kc] 54)).alloc (.map #[] 0));have c:=Below.jE w (.cells #[.int .i64 t.a,.int .i64 t.n,.slice ka t.k.len kc] 54) (.map #[] 0);have d:fE V (w.heap.size+1) (λ_=>false):=by
  rw[a];have:=fE.new (w.alloc (.cells #[.int .i64 t.a,.int .i64 t.n,.slice ka t.k.len kc] 54));simpa using this
 rw[<-a]at c;obtain⟨j,k,g⟩:=h_3 (Hu t.size t _ V B (w.heap.size+1) _ lR (l.o.below c hB) (ai hB c.size) d (by omega)) c a;rw[a]at j;have o:= @run_makeMap Tryz.prog;clear f c d a
 go_enter Tryz.func209,Tryz.ntmps209
 go_wp2_with fail
 refine j.o.mono ?_;rintro e p ⟨rfl,d,a⟩;rw[<-g.o]at a;have c:=hI (d.congr (S':=Dq t) λx=>by rw[Bool.false_or]);have f:=hI (k.o.trans (a.toBelow (n:=w.heap.size) k.o.size (λb e=>by omega)));clear d a;go_wp2;go_ret;exact⟨_,rfl,c.o,f.o,by omega⟩
end
section
open Go Go.RowKit
abbrev OE(l:List Int):Prop:=l.Pairwise (·<·)
theorem QM:∀{l m:List Int},OE l->OE m->(∀x,x∈l↔x∈m)->l=m
 |[],[],_,_,_=>rfl
 |[],y::m,_,_,h=>by have:=(h y).2 (by simp);cases this
 |x::l,[],_,_,h=>by have:=(h x).1 (by simp);cases this
 |x::l,y::m,a,hm,h=>by
  have a:=List.pairwise_cons.1 a;have hm:=List.pairwise_cons.1 hm;have c:x=y:=by
   rcases aE.1 ((h x).1 (by simp))with e|e
   ·exact e
   ·rcases aE.1 ((h y).2 (by simp))with b|b
    ·exact b.symm
    ·have:=hm.1 x e;have:=a.1 y b;omega
  subst c;rw[QM a.2 hm.2 λz=> ?_];constructor
  ·intro b;have d:=a.1 z b;rcases aE.1 ((h z).1 (by simp[b]))with e|e
   ·omega
   ·exact e
  ·intro b;have d:=hm.1 z b;rcases aE.1 ((h z).2 (by simp[b]))with e|e
   ·omega
   ·exact e
theorem Ag:∀(l:List Int) (n x:Int),x∈lr l n↔x=n\/x∈l
 |[],n,x=>by simp[lr]
 |y::l,n,x=>by
  unfold lr
  split
  ·rw[aE,Ag l n x,aE];constructor
   ·exact aoa
   ·exact aoa
  ·split
   ·rename_i e;subst e;simp
   ·simp
theorem Fa:∀(l:List Int) (n:Int),OE l->OE (lr l n)
 |[],n,_=>by simp[lr,OE]
 |y::l,n,h=>by
  have h:=List.pairwise_cons.1 h;unfold lr
  split
  ·rename_i hy;refine List.pairwise_cons.2 ⟨λz a=> ?_,Fa l n h.2⟩;rcases(Ag l n z).1 a with rfl|a
   ·exact hy
   ·exact h.1 z a
  ·split
   ·exact List.pairwise_cons.2 h
   ·rename_i b c;refine List.pairwise_cons.2 ⟨λz a=> ?_,List.pairwise_cons.2 h⟩;rcases aE.1 a with rfl|a
    ·omega
    ·have:=h.1 z a;omega
theorem aaG(c:Bool)(n:Int):∀(l out:List Int),OE out->OE (sP c n out l)/\∀x,x∈sP c n out l↔x∈out\/(x∈l/\(c&&x==n)=false):=by
 intro l;unfold sP
 induction l with
 |nil=>intro out h;exact⟨h,λx=>by simp⟩
 |cons y l d=>
  intro out h;rw[bp];by_cases hy:(c&&y==n)=true
  ·rw[hy];simp only[Bool.not_true,bF,if_false];refine⟨(d out h).1,λx=> ?_⟩;rw[(d out h).2 x,aE];constructor
   ·rintro(h|⟨b,a⟩)
    ·exact .inl h
    ·exact .inr ⟨.inr b,a⟩
   ·rintro(h|⟨rfl|b,a⟩)
    ·exact .inl h
    ·rw[hy]at a;cases a
    ·exact .inr ⟨b,a⟩
  ·have hy:(c&&y==n)=false:=by simpa using hy
   rw[hy];simp only[Bool.not_false,if_true,List.foldl_cons];refine⟨(d _ (Fa out y h)).1,λx=> ?_⟩;rw[(d _ (Fa out y h)).2 x,Ag,aE];constructor
   ·rintro((rfl|h)|⟨b,a⟩)
    ·exact .inr ⟨.inl rfl,hy⟩
    ·exact .inl h
    ·exact .inr ⟨.inr b,a⟩
   ·rintro(h|⟨rfl|b,a⟩)
    ·exact .inl (.inr h)
    ·exact .inl (.inl rfl)
    ·exact .inr ⟨b,a⟩
theorem OF:∀(F:Fo) (c:Bool) (n:Int) (i:Nat) (out:List Int),OE out->OE (G3 F c n i out)/\∀x,x∈G3 F c n i out↔x∈out\/wW c n i F x=true
 | .nil,_,_,_,out,h=>by unfold G3 wW;exact⟨h,λx=>by simp⟩
 | .cons a m k r,c,n,i,out,h=>by
  have f:OE (if a=1 then[m]else G3 k (a==8) m 0 [])/\∀x,x∈(if a=1 then[m]else G3 k (a==8) m 0 [])↔(if a=1 then x==m else wW (a==8) m 0 k x)=true:=by
   split
   ·exact⟨by simp[OE],λx=>by simp⟩
   ·have:=OF k (a==8) m 0 [] (by simp[OE]);exact⟨this.1,λx=>by rw[this.2 x];simp⟩
  have b:=aaG (c&&i==1) n (if a=1 then[m]else G3 k (a==8) m 0 []) out h;have d:=OF r c n (i+1) _ b.1;unfold G3;refine⟨d.1,λx=> ?_⟩;have e:wW c n i (.cons a m k r) x=(((if a=1 then x==m else wW (a==8) m 0 k x)&& !(c&&i==1&&x==n))||wW c n (i+1) r x):=rfl;rw[d.2 x,b.2 x,f.2 x,e];rw[b7,ak,Bool.not_eq_true',or_assoc]
theorem lC(t:Nd):OE (cC t)/\∀x,x∈cC t↔Dq t x=true:=by
 unfold cC Dq
 split
 ·exact⟨by simp[OE],λx=>by simp⟩
 ·have:=OF t.k (t.a==8) t.n 0 [] (by simp[OE]);exact⟨this.1,λx=>by rw[this.2 x];simp⟩
theorem Cg{t:Nd}{ks:List Int}(e:ks.Nodup)(f:∀x,x∈ks↔Dq t x=true):ks.mergeSort (λx y=>decide (x<=y))=cC t:=by
 have hp:=List.mergeSort_perm ks (λx y=>decide (x<=y));have g:=List.pairwise_mergeSort (le:=λx y:Int=>decide (x<=y)) (λa b c d i=>by simp at*;omega) (λa b=>by simp;omega) ks;have j:=hp.nodup_iff.2 e;refine QM ?_ (lC t).1 λx=>by rw[hp.mem_iff,f x,(lC t).2 x]
 refine(g.and j).imp ?_;rintro a b ⟨d,i⟩;simp at d;omega
end
end Go.Proofs.YtnicceekibancaaGreat
namespace Go.Proofs
open Go.Shelf
def Tryz.SH:Go.Shelf.Ren:=⟨fun|189=>210|125=>238|257=>237|128=>270|129=>271|294=>261|295=>262|296=>263|297=>264|298=>265|299=>266|216=>267|300=>268|301=>269|328=>286|329=>287|330=>288|331=>289|332=>290|215=>291|343=>294|n=>n,fun|28=>74|3=>3|46=>201|0=>0|51=>284|53=>286|4=>4|183=>278|182=>277|131=>121|5=>5|9=>9|218=>289|222=>292|228=>295|229=>296|n=>n,fun|n=>n⟩
theorem Tryz.ac3:Go.Proofs.Lays.n189 Tryz.prog Tryz.SH:={
 mixed:=by kernel_rfl
 f125:=Tryz.func238.trans (congrArg some (by kernel_rfl))
 f128:=Tryz.func270.trans (congrArg some (by kernel_rfl))
 f129:=Tryz.func271.trans (congrArg some (by kernel_rfl))
 f189:=Tryz.func210.trans (congrArg some (by kernel_rfl))
 f215:=Tryz.func291.trans (congrArg some (by kernel_rfl))
 f216:=Tryz.func267.trans (congrArg some (by kernel_rfl))
 f257:=Tryz.func237.trans (congrArg some (by kernel_rfl))
 f294:=Tryz.func261.trans (congrArg some (by kernel_rfl))
 f295:=Tryz.func262.trans (congrArg some (by kernel_rfl))
 f296:=Tryz.func263.trans (congrArg some (by kernel_rfl))
 f297:=Tryz.func264.trans (congrArg some (by kernel_rfl))
 f298:=Tryz.func265.trans (congrArg some (by kernel_rfl))
 f299:=Tryz.func266.trans (congrArg some (by kernel_rfl))
 f300:=Tryz.func268.trans (congrArg some (by kernel_rfl))
 f301:=Tryz.func269.trans (congrArg some (by kernel_rfl))
 f328:=Tryz.func286.trans (congrArg some (by kernel_rfl))
 f329:=Tryz.func287.trans (congrArg some (by kernel_rfl))
 f330:=Tryz.func288.trans (congrArg some (by kernel_rfl))
 f331:=Tryz.func289.trans (congrArg some (by kernel_rfl))
 f332:=Tryz.func290.trans (congrArg some (by kernel_rfl))
 f343:=Tryz.func294.trans (congrArg some (by kernel_rfl))
 t0:=Tryz.underlying0
 a0:=Tryz.isAgg0
 z0:=Tryz.sizeOf0
 v0:=Tryz.zeroValue0
 t3:=Tryz.underlying3
 a3:=Tryz.isAgg3
 z3:=Tryz.sizeOf3
 v3:=Tryz.zeroValue3
 t4:=Tryz.underlying4
 a4:=Tryz.isAgg4
 z4:=Tryz.sizeOf4
 v4:=Tryz.zeroValue4
 t5:=Tryz.underlying5
 a5:=Tryz.isAgg5
 z5:=Tryz.sizeOf5
 v5:=Tryz.zeroValue5
 t9:=Tryz.underlying9
 a9:=Tryz.isAgg9
 z9:=Tryz.sizeOf9
 v9:=Tryz.zeroValue9
 t28:=Tryz.underlying74
 a28:=Tryz.isAgg74
 z28:=Tryz.sizeOf74
 v28:=Tryz.zeroValue74
 t46:=Tryz.underlying201
 a46:=Tryz.isAgg201
 z46:=Tryz.sizeOf201
 v46:=Tryz.zeroValue201
 t51:=Tryz.underlying284
 a51:=Tryz.isAgg284
 z51:=Tryz.sizeOf284
 v51:=Tryz.zeroValue284
 t53:=Tryz.underlying286
 a53:=Tryz.isAgg286
 z53:=Tryz.sizeOf286
 v53:=Tryz.zeroValue286
 t131:=Tryz.underlying121
 a131:=Tryz.isAgg121
 z131:=Tryz.sizeOf121
 v131:=Tryz.zeroValue121
 t182:=Tryz.underlying277
 a182:=Tryz.isAgg277
 z182:=Tryz.sizeOf277
 v182:=Tryz.zeroValue277
 t183:=Tryz.underlying278
 a183:=Tryz.isAgg278
 z183:=Tryz.sizeOf278
 v183:=Tryz.zeroValue278
 t218:=Tryz.underlying289
 a218:=Tryz.isAgg289
 z218:=Tryz.sizeOf289
 v218:=Tryz.zeroValue289
 t222:=Tryz.underlying292
 a222:=Tryz.isAgg292
 z222:=Tryz.sizeOf292
 v222:=Tryz.zeroValue292
 t228:=Tryz.underlying295
 a228:=Tryz.isAgg295
 z228:=Tryz.sizeOf295
 v228:=Tryz.zeroValue295
 t229:=Tryz.underlying296
 a229:=Tryz.isAgg296
 z229:=Tryz.sizeOf296
 v229:=Tryz.zeroValue296}
end Go.Proofs
namespace Go.Proofs.YtnicceekibancaaGreat
section
open Go Go.RowKit
attribute [local go_sem] aT cW df
theorem LS(xs:List Int):cE xs=xs.map (Value.int .i64):=rfl
theorem WM{w:World}{base g n cap:Nat}{a:List Int}(h:w.ownsRow base 3 1 (.slice (some ⟨g,0,none⟩) n cap) n (cE a))(r:n<=1000000):
 Calls Tryz.prog 210 #[.slice (some ⟨g,0,none⟩) n cap] w λe w'=>e=.returned (.tuple #[])/\w'.ownsRow base 3 1 (.slice (some ⟨g,0,none⟩) n cap) n (cE (a.mergeSort λx y=>decide (x<=y)))/\w.grownBy w' (some g):=by
 have hlen:a.length=n:=by have:=h.1;rw[dJ]at this;omega
 have j:(a.mergeSort λx y=>decide (x<=y)).length=a.length:=List.length_mergeSort a;rw[LS]at h;have k:=h;rcases k.2 with⟨b,_⟩|⟨g',s,cur,b,l,c,t,m,o,d⟩
 ·cases b
 cases b;rw[Nat.mul_one,<-hlen]at d;have p:=holds_of_blockI c d;have f:=Any.slices_Sort_int Tryz.ac3 g 0 cap a w p (gE c).1 (by omega);rw[hlen]at f;refine f.mono ?_;rintro e w' ⟨rfl,q,os,rfl⟩;refine⟨rfl,?_,grownBy_sortedI _⟩;have i:=ownsRow_sortedI (n:=q) (os:=os) (ts:=a.mergeSort λx y=>decide (x<=y)) (ss:=a) j l c (by omega) m o;rw[hlen]at i;rw[LS];exact i
theorem SI{w:World}{base n:Nat}{v:Value}{a:List Int}(h:w.ownsRow base 3 1 v n (cE a))(c:n<=1000000)(d:base<=w.heap.size):
 Calls Tryz.prog 210 #[v] w λe w'=>e=.returned (.tuple #[])/\w'.ownsRow base 3 1 v n (cE (a.mergeSort λx y=>decide (x<=y)))/\Below base w w':=by
 rcases h.2 with⟨b,f⟩|⟨g,cap,cur,b,i,rest⟩
 ·subst b f;have j:a=[]:=by have:=h.1;rw[dJ]at this;exact List.length_eq_zero_iff.1 (by omega)
  subst j;refine(Any.slices_Sort_int_none Tryz.ac3 none 0 w).mono ?_;rintro e w' ⟨rfl,rfl⟩;exact⟨rfl,by rw[List.mergeSort_nil];exact aZ _ _ _ _,bR⟩
 ·subst b;refine(WM h c).mono ?_;rintro e w' ⟨rfl,j,k⟩;exact⟨rfl,j,(Below.refl base w).grown k d (λq l=>by cases l;exact i)⟩
end
end Go.Proofs.YtnicceekibancaaGreat
