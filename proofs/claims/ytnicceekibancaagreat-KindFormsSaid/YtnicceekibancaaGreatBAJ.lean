/- Lemmas: UniE UniF MatA MatW UniD FndC InfW Kno KnoB KnoC KnoD KnoE. -/
import Derived.Test.YtnicceekibancaaGreatBZ
import Derived.Test.YtnicceekibancaaGreatBAI
import Derived.Test.YtnicceekibancaaGreatBAE
import Derived.Test.YtnicceekibancaaGreatBAA
import Derived.Test.YtnicceekibancaaGreatBAF
import Derived.Test.YtnicceekibancaaGreatBAH
import Derived.Deep.Cut
set_option linter.all false
set_option maxRecDepth 100000
set_option maxHeartbeats 8000000
namespace Go.Proofs.YtnicceekibancaaGreat
variable{B b k:Nat}{T:TypeId}{g:Gr}{w:World}
section
def xd(g:Gr):Nat->Nat->Option Nat
 |0,_=>none
 |k+1,n=>match xd g k n with
  |some i=>some i
  |none=>if find g k=n then some k else none
theorem MZ(g:Gr)(n:Nat):∀k,xd g k n=if n∈(List.range k).map (find g)then some (((List.range k).map (find g)).idxOf n)else none
 |0=>rfl
 |k+1=>by
  have e:(List.range (k+1)).map (find g)=(List.range k).map (find g)++[find g k]:=by rw[List.range_succ,bA];rfl
  unfold xd;rw[MZ g n k,e,List.idxOf_append];by_cases h:n∈(List.range k).map (find g)
  ·rw[aq h,aq (List.mem_append_left _ h),aq h]
  ·rw[ah h,ah h];by_cases a:find g k=n
   ·have:n∈(List.range k).map (find g)++[find g k]:=by rw[a];simp
    rw[aq this];show(if _ then _ else _)=_;rw[aq a,a];simp
   ·have:n ∉ (List.range k).map (find g)++[find g k]:=λhm=>(aQ.1 hm).elim h λhm=>a (aJ.1 hm).symm;rw[ah this];show(if _ then _ else _)=_;rw[ah a]
def yR(g:Gr)(k:Nat)(x:Int):Option Value:=if 0<=x then(xd g k x.toNat).map nV else none
theorem TG(g:Gr)(x:Int):none=yR g 0 x:=by unfold yR xd;split<;>rfl
theorem TH(h:xd g k (find g k)=none)(x:Int):(if x=((find g k:Nat):Int)then some (.int .i64 ((k:Nat):Int))else yR g k x)=yR g (k+1) x:=by
 unfold yR;by_cases e:x=((find g k:Nat):Int)
 ·subst e;rw[aq rfl,aq (by omega),bw];unfold xd;rw[h];show _=(if find g k=find g k then some k else none).map nV;rw[aq rfl];rfl
 ·rw[ah e];by_cases a:0<=x
  ·rw[aq a,aq a]
   conv=>rhs;unfold xd
   have:¬find g k=x.toNat:=by omega
   cases xd g k x.toNat with
   |some i=>rfl
   |none=>show _=(if find g k=x.toNat then some k else none).map nV;rw[ah this]
  ·rw[ah a,ah a]
theorem TI{i:Nat}(h:xd g k (find g k)=some i)(x:Int):yR g k x=yR g (k+1) x:=by
 unfold yR;by_cases a:0<=x
 ·rw[aq a,aq a]
  conv=>rhs;unfold xd
  cases e:xd g k x.toNat with
  |some j=>rfl
  |none=>
   show _=(if find g k=x.toNat then some k else none).map nV;by_cases b:find g k=x.toNat
   ·rw[b,e]at h;cases h
   ·rw[ah b]
 ·rw[ah a,ah a]
def JX(g:Gr)(vs:List Int)(x:Int):Int:=(((if 0<=vs[x.toNat]?.getD 0 then xd g 20 (vs[x.toNat]?.getD 0).toNat else none).getD 0:Nat):Int)
theorem Yq(g:Gr)(vs:List Int)(x:Int):(yR g 20 (vs[x.toNat]?.getD 0)).getD (.int .i64 0)=.int .i64 (JX g vs x):=by
 unfold yR JX
 split
 ·cases xd g 20 (vs[x.toNat]?.getD 0).toNat<;>rfl
 ·rfl
theorem DG:∀(f:Fo) (vs:List Int) (x:Int),f.has x->x∈(f.num vs).1
 | .nil,_,_,h=>h.elim
 | .cons a n k r,vs,x,h=>by
  unfold Fo.has at h;unfold Fo.num;by_cases e:a=1
  ·rw[aq e]at h |-;obtain⟨w,hw⟩:=kJ r (iw vs n);rcases h with rfl|h
   ·show x∈(r.num (iw vs x)).1;rw[hw];exact List.mem_append_left _ (DY vs x)
   ·exact DG r _ x h
  ·rw[ah e]at h |-;obtain⟨w,hw⟩:=kJ r (k.num vs).1;rcases h with h|h
   ·show x∈(r.num (k.num vs).1).1;rw[hw];exact List.mem_append_left _ (DG k vs x h)
   ·exact DG r _ x h
theorem DH{φ ψ:Int->Int}:∀(f:Fo) (vs w:List Int),f.plain->(∀x,f.has x->φ (((f.num vs).1++w).idxOf x:Nat)=ψ x)->(f.num vs).2.Cc φ=f.put λr=>aeb (ψ r)
 | .nil,_,_,_,_=>rfl
 | .cons a n k r,vs,w,h,b=>by
  unfold Fo.num Fo.has at b;unfold Fo.num Fo.put;by_cases e:a=1
  ·simp only[aq e]at b;rw[aq e,aq e];obtain⟨d,g⟩:=kJ r (iw vs n);show Fo.cons 1 (if(1:Int)=1 then φ (qF vs n)else qF vs n) Fo.nil ((r.num (iw vs n)).2.Cc φ)=.cons 1 (ψ n) .nil (r.put _);rw[DH (ψ:=ψ) r (iw vs n) w h.2.2 λx c=>b x (.inr c),aq rfl,zD vs n (d++w)];have:=b n (.inl rfl);rw[g,aG]at this;rw[this]
  ·simp only[ah e]at b;rw[ah e,ah e];obtain⟨d,g⟩:=kJ r (k.num vs).1;show Fo.cons a (if a=1 then φ n else n) ((k.num vs).2.Cc φ) ((r.num (k.num vs).1).2.Cc φ)=.cons a n (k.put _) (r.put _);rw[DH (ψ:=ψ) r (k.num vs).1 w h.2.2 λx c=>b x (.inr c),ah e,DH (ψ:=ψ) k vs (d++w) h.2.1 λx c=>by
    have:=b x (.inl c);rw[g,aG]at this;exact this]
theorem one_num(vs:List Int)(T:Nd):T.one.num vs=(Nd.Ab vs T,(Nd.Gh vs T).one):=by
 obtain⟨a,n,k⟩:=T;exact Fo.Ac a n k .nil vs
theorem abQ{T U:Nd}(h:T.one=U.one):T=U:=by
 obtain⟨a,n,k⟩:=T;obtain⟨b,c,d⟩:=U;unfold Nd.one at h;simp only[Fo.cons.injEq,and_true]at h;obtain⟨rfl,rfl,rfl⟩:=h;rfl
structure agq (g:Gr):Prop where
 good:Good g
 low:∀p∈List.range 20,p<g.length
 opn:∀i,i<g.length->dQ (aX g i)=true->i∈List.range 20
 trees:Trees g (iP g)
theorem FI(σ:Int->Int):∀F:Fo,F.plain->(F.put λr=>aeb (σ r)).size=F.size
 | .nil,_=>rfl
 | .cons a n k r,h=>by
  rw[Fo.KA];have c:=FI σ r h.2.2;by_cases b:a=1
  ·rw[aq b,h.1 b];show 1+0+_=1+0+_;rw[c]
  ·rw[ah b];show 1+_+_=1+_+_;rw[FI σ k h.2.1,c]
theorem adh:∀(k:Nat) {g:Gr} {ps:List Nat},Good g->(∀p∈ps,p<g.length)->Good (lh k g ps).1/\∀p∈(lh k g ps).2,p<(lh k g ps).1.length
 |0,_,_,h,hp=>⟨h,hp⟩
 |k+1,g,ps,h,hp=>adh k (h.add rfl (λp hp=>by cases hp) (λ_=>rfl) (by decide)) λp hm=>by
  rw[dS];rcases aQ.1 hm with hm|hm
  ·have:=hp p hm;omega
  ·rw[aJ.1 hm];omega
theorem abR(h:agq g)(b:k<20)(vs:List Int):(Nd.Gh vs (iP g k)).Cc (JX g (Nd.Ab vs (iP g k)))=BF g (List.range 20) k:=by
 have c:=h.trees;have a:k<g.length:=h.low k (bq.2 b);have hp:=c.plain h.good k a;have e:=c.has h.good k a;unfold BF;rw[dh b,bK];refine abQ ?_;rw[Mc];have:=DH (φ:=JX g (Nd.Ab vs (iP g k))) (ψ:=JP g (List.range 20)) (iP g k).one vs [] hp λx d=> ?_
 ·rw[one_num]at this;exact this
 ·rw[bk];have hm:=DG _ vs x d;rw[one_num]at hm |-;have hm:x∈Nd.Ab vs (iP g k):=hm;obtain⟨q,rfl,f,i,j⟩:=e x d;have l:q∈(List.range 20).map (find g):=aN.2 ⟨q,h.opn q f i,j⟩;unfold JX JP;show(((if 0<=(Nd.Ab vs (iP g k))[((((Nd.Ab vs (iP g k)).idxOf (q:Int):Nat):Int)).toNat]?.getD 0 then _ else _:Option Nat).getD 0:Nat):Int)=_;rw[bw,zC hm,bK,aq (by omega),bw,MZ,aq l];rfl
theorem TK(k:Nat)(U:Nat->Nd):JQ (k+1) U=JQ k U++if(U k).a=1/\(U k).n=(k:Int)then[]else[(k,U k)]:=by
 unfold JQ;rw[List.range_succ,bA,List.filter_append]
 congr 1
 by_cases h:(U k).a=1/\(U k).n=(k:Int)
 ·rw[aq h];simp[h.1,h.2]
 ·rw[ah h];simp only[bz,List.map_nil];refine List.filter_cons_of_pos ?_;by_cases a:(U k).a=1
  ·have b:¬(U k).n=(k:Int):=λe=>h ⟨a,e⟩;simp[a,b]
  ·simp[a]
theorem Yr{a b:Nd}{c f:(Gr×Unit)×List Nat}{D e:Gr}{X Y:Nat}(j:a.one.nr/\(∀x,a.one.has x->0<=x/\x.toNat<20)/\a.size<=20/\a.ok)(k:b.one.nr/\(∀x,b.one.has x->0<=x/\x.toNat<20)/\b.size<=20/\b.ok)
 (l:c=dO (vfC (List.range 20)) a.one (iX 20) ()) (m:f=dO (vfC (List.range 20)) b.one c.1.1 ()) (E:D=c.1.1) (q:e=f.1.1) (F:X=c.2.headD 0) (G:Y=f.2.headD 0):
 Good e/\jq kF e/\X<e.length/\Y<e.length/\(∀p∈List.range 20,p<e.length)/\(∀i,i<e.length->dQ (aX e i)=true->i∈List.range 20)/\aby true a b=(oK e X Y).map λg=>(g,List.range 20):=by
 have hlen:(List.range 20).length=20:=List.length_range;obtain⟨f1,f2,f3⟩:=An a.one (iX 20) (List.range 20) λx d=>by rw[hlen];exact j.2.1 x d
 have f1:(dO l7 a.one (iX 20) (List.range 20)).1.1=c.1.1:=f1.trans (by rw[l];rfl);have f2:(dO l7 a.one (iX 20) (List.range 20)).2=c.2:=f2.trans (by rw[l];rfl);obtain⟨n,o,A⟩:=An b.one c.1.1 (List.range 20) λx d=>by rw[hlen];exact k.2.1 x d
 have n:(dO l7 b.one c.1.1 (List.range 20)).1.1=f.1.1:=n.trans (by rw[m];rfl);have o:(dO l7 b.one c.1.1 (List.range 20)).2=f.2:=o.trans (by rw[m];rfl);have r:=adh 20 (ps:=[]) Good.nil λp hp=>by cases hp
 rw[Ri]at r;have H:(iX 20).length=20:=by unfold iX;simp
 obtain⟨g1,_,s,t⟩:=SS a.one r.1 r.2 j.2.2.2.jL λx d=>by rw[hlen];exact(j.2.1 x d).2
 have q1:=(wE a.one (iX 20) (List.range 20)).2 j.1 (by rw[Nd.jr];have:=j.2.2.1;omega) kF (.inl rfl) (.inr (.inl rfl)) (.inr (.inr (.inl rfl))) (.inr (.inr (.inr rfl))) λi hi=>by
  unfold iX at hi |-;rw[cM]at hi;have:aX (List.replicate 20 (⟨0,0,[],none⟩:Vx)) i=⟨0,0,[],none⟩:=by unfold aX;rw[List.getElem?_replicate,aq hi];rfl
  rw[this];exact⟨.inl rfl,by decide⟩
 have u:=vM a.one (iX 20) (List.range 20) j.2.2.2.jL λi hi _=>bq.2 (by omega);obtain⟨x,d⟩:=C5 l7 a (iX 20) (List.range 20);rw[f3]at u;rw[f1]at g1 s t q1 u;rw[f2]at d t;have s:(iX 20).length<=c.1.1.length:=s;have B:∀p∈List.range 20,p<c.1.1.length:=λp hp=>by have:=bq.1 hp;omega
 obtain⟨g2,_,v,w⟩:=SS b.one g1 B k.2.2.2.jL λx d=>by rw[hlen];exact(k.2.1 x d).2
 have C:=(wE b.one c.1.1 (List.range 20)).2 k.1 (by rw[Nd.jr];have:=k.2.2.1;omega) kF (.inl rfl) (.inr (.inl rfl)) (.inr (.inr (.inl rfl))) (.inr (.inr (.inr rfl))) q1;have z:=vM b.one c.1.1 (List.range 20) k.2.2.2.jL u;obtain⟨y,hy⟩:=C5 l7 b c.1.1 (List.range 20);rw[A]at z;rw[n]at g2 w C v z;rw[o]at hy w;rw[q,F,G];refine⟨g2,C,?_,?_,λp hp=>aC (B p hp) v,z,?_⟩
 ·rw[d];exact aC (t x (by rw[d];exact aJ.2 rfl)) v
 ·rw[hy];exact w y (by rw[hy];exact aJ.2 rfl)
 ·unfold aby;simp only[if_true,Ri];rw[f1,f2,f3,n,o,A];unfold oK;cases T3 f.1.1 (c.2.headD 0) (f.2.headD 0)with
  |none=>rfl
  |some g=>
   show _=Option.map _ (fin1 g);unfold fin1;show(match eX g with|none=>none|some _=>some (g,List.range 20))=_;cases eX g<;>rfl
theorem FJ{a:Gr}{X Y:Nat}(h:Good a)(d:jq kF a)(f:X<a.length)(j:Y<a.length)(e:oK a X Y=some g):Good g/\g.length=a.length/\jq kF g/\(∀i,(aX g i).sort=(aX a i).sort)/\Trees g (iP g):=by
 unfold oK at e;cases he:T3 a X Y with
 |none=>rw[he]at e;cases e
 |some g'=>
  rw[he]at e;obtain⟨g1,g2,_⟩:=h.eq f j he;obtain⟨_,c⟩:=JB _ _ _ _ _ he;have e:fin1 g'=some g:=e;unfold fin1 at e;cases b:eX g' with
  |none=>rw[b]at e;cases e
  |some st=>
   rw[b]at e;cases e;exact⟨g1,g2,d.same g2 c,λi=>(c i).1,uJ g1.wf (xT g1.wf b)⟩
def abS(a:Gr)(X Y:Nat):PY (List (Nat×Nd)):=match oK a X Y with
 |none=>.rp
 |some g=>if(List.range 20).all λi=>decide ((iP g i).size<=20)then .ok (JQ 20 (BF g (List.range 20)))else .px
theorem TL{a b:Nd}{c:Gr}{X Y:Nat}(j:Good c)(k:jq kF c)(l:X<c.length)(m:Y<c.length)(n:∀p∈List.range 20,p<c.length)(o:∀i,i<c.length->dQ (aX c i)=true->i∈List.range 20)(h:aby true a b=(oK c X Y).map λg=>(g,List.range 20)):MN true a b=abS c X Y/\∀g,oK c X Y=some g->agq g:=by
 have hu:∀g,oK c X Y=some g->agq g:=λg e=>by
  obtain⟨f,d,_,q,r⟩:=FJ j k l m e;exact⟨f,by rw[d];exact n,λi hi hop=>o i (by omega) (by rw[<-xS (q i)];exact hop),r⟩
 refine⟨?_,hu⟩;unfold MN abS;rw[h];cases e:oK c X Y with
 |none=>rfl
 |some g=>
  show(if _ then _ else _)=if _ then _ else _;have d:((List.range (List.range 20).length).all λi=>decide ((BF g (List.range 20) i).size<=20))=(List.range 20).all λi=>decide ((iP g i).size<=20):=by
   rw[List.length_range,aP,aK,aK];have:∀i,i∈List.range 20->(BF g (List.range 20) i).size=(iP g i).size:=λi hi=>by
    have hp:=(hu g e).trees.plain (hu g e).good i ((hu g e).low i hi);have f:=FI (JP g (List.range 20)) (iP g i).one hp;unfold BF;rw[dh (bq.1 hi),bK,<-Nd.jr,<-Nd.jr,Mc];exact f
   exact⟨λf i hi=>by rw[<-this i hi];exact f i hi,λf i hi=>by rw[this i hi];exact f i hi⟩
  rw[d,List.length_range]
end
section
open Go Go.RowKit Go.Sort
attribute [local go_sem] aT cW df nV uV
theorem mE.keep{w1:World}{base:Nat}{v:Value}{bs:List Bd}{ps:List Value}(h:mE w base v bs ps)(c:∀(b:Nat) (cur:Array Value) (t:TypeId) (f:Nat×Nat),w.heap[b]? =some (Obj.cells cur t f)->(t=26\/t=69)->w1.heap[b]? =some (Obj.cells cur t f)):mE w1 base v bs ps:=by
 refine⟨h.len,⟨h.own.1,?_⟩,λi hi=>(h.parts i hi).keep λb o a e=> ?_⟩
 ·rcases h.own.2 with d|⟨g,cap,cur,rfl,a,j,rest⟩
  ·exact .inl d
  ·exact .inr ⟨g,cap,cur,rfl,a,c _ _ _ _ j (.inr rfl),rest⟩
 ·obtain⟨_,cur,f,rfl⟩:=a;exact c _ _ _ _ e (.inl rfl)
theorem mE.block{base:Nat}{v:Value}{bs:List Bd}{ps:List Value}(h:mE w base v bs ps){q:Nat}(a:v.ownBlock=some q):base<=q/\∃cur,w.heap[q]? =some (.cells cur 69 (0,0)):=by
 rcases h.own.2 with⟨rfl,_⟩|⟨g,cap,cur,rfl,b,c,_⟩
 ·cases a
 ·cases a;exact⟨b,cur,c⟩
structure TM (gb y:Nat) (A0:World) (g:Gr) (k:Nat) (W:World):Prop where
 un:ki gb (λq=>q=y+2) g W
 gp:W.heap[gb+1]? =some (.cells #[.pointer (some ⟨gb,0,none⟩)] 107 (0,0))
 sc:W.heap[y]? =some (.cells #[.pointer (some ⟨gb,0,none⟩),.slice none 0 0,.bool false] 119 (0,0))
 arr:W.heap[gb+2]? =some (.cells (w_ 20) 111 (0,0))
 bx:W.heap[y+1]? =some (.cells #[.pointer (some ⟨y,0,none⟩)] 117 (0,0))
 bm:W.heap[y+3]? =some (.cells #[.map (some (y+2))] 120 (0,0))
 map:eu eT W (y+2) (yR g k)
 low:Below gb A0 W
 ge:gb<=y
theorem eu.agr{mb:Nat}{f:Int->Option Value}(h:eu eT w mb f):∃es c,w.heap[mb]? =some (.map es c):=by
 obtain⟨_,⟨es,c,h,_⟩,_⟩:=h;exact⟨es,c,h⟩
section
variable {gb y k:Nat} {A0 W W':World} {g:Gr}
theorem TM.below(h:TM gb y A0 g k W)(a:Below W.heap.size W W'):TM gb y A0 g k W':=by
 have l:∀{q:Nat} {o:Obj},W.heap[q]? =some o->W'.heap[q]? =some o:=λ{q o} b=>cY a b;exact⟨h.un.below a,l h.gp,l h.sc,l h.arr,l h.bx,l h.bm,h.map.below a h.map.lt,h.low.trans (a.mono (bt h.un.lt)),h.ge⟩
theorem TM.set(h:TM gb y A0 g k W)(o:Obj)(hm:eu eT (W.putObj (y+2) o) (y+2) (yR g (k+1))):TM gb y A0 g (k+1) (W.putObj (y+2) o):=by
 obtain⟨es,c,d⟩:=h.map.agr;have a:vo (y+2) W (W.putObj (y+2) o):=⟨rfl,rfl,rfl,by simp,λq o' b e=>(aA b).trans e⟩;have ne:∀{q:Nat} {f:Array Value} {ty:TypeId},W.heap[q]? =some (.cells f ty (0,0))->q≠y+2:=λ{q f ty} b e=>by
  rw[e,d]at b;cases b
 exact⟨h.un.but a (.inl rfl) ⟨_,d,trivial⟩,a.same _ _ (ne h.gp) h.gp,a.same _ _ (ne h.sc) h.sc,a.same _ _ (ne h.arr) h.arr,a.same _ _ (ne h.bx) h.bx,a.same _ _ (ne h.bm) h.bm,hm,h.low.trans (dI (Below.refl gb W) (by have:=h.ge;omega) o),h.ge⟩
theorem TM.stay(h:TM gb y A0 g k W){i:Nat}(hi:xd g k (find g k)=some i):TM gb y A0 g (k+1) W:=
 ⟨h.un,h.gp,h.sc,h.arr,h.bx,h.bm,h.map.congr (TI hi),h.low,h.ge⟩
end
structure Ro (gb y:Nat) (A0:World) (g:Gr) (r:Option Nat) (gv:Value) (ps:List Value) (vs:List Int) (rv:Option Nat) (vv:Value) (lg:Bool) (v:Value) (bs:List Bd) (pb:List Value) (W:World):Prop where
 gr:ed jU W gb gb g r gv ps
 sc:oS W 0 y gb vs rv vv lg
 sep:Sep ps rv
 rge:∀q,rv=some q->gb<=q
 bx:W.heap[y+1]? =some (.cells #[.pointer (some ⟨y,0,none⟩)] 117 (0,0))
 bm:W.heap[y+3]? =some (.cells #[.map (some (y+2))] 120 (0,0))
 map:eu eT W (y+2) (yR g 20)
 own:mE W gb v bs pb
 low:Below gb A0 W
 ge:gb<=y
theorem TM.start{gb y:Nat}{A0 W:World}(h:TM gb y A0 g 20 W):∃r gv ps,Ro gb y A0 g r gv ps [] none (.slice none 0 0) false (.slice none 0 0) [] [] W:=by
 obtain⟨r,gv,ps,a,_⟩:=h.un.gr;exact⟨r,gv,ps,a,⟨h.sc,rfl,aZ _ _ _ _⟩,Sep.none _,λq e=>(by cases e),h.bx,h.bm,h.map,mE.nil _ _,h.low,h.ge⟩
section
variable {gb y:Nat} {A0 W W':World} {g:Gr} {r:Option Nat} {gv:Value} {ps:List Value} {vs o_:List Int} {rv qN:Option Nat} {vv yz:Value} {lg rC:Bool} {v v' p:Value} {bs:List Bd} {pb:List Value} {b:Bd}
theorem Ro.lt(h:Ro gb y A0 g r gv ps vs rv vv lg v bs pb W):gb<W.heap.size:=h.gr.lt.1
theorem Ro.below(h:Ro gb y A0 g r gv ps vs rv vv lg v bs pb W)(a:Below W.heap.size W W'):Ro gb y A0 g r gv ps vs rv vv lg v bs pb W':=by
 have l:∀{q:Nat} {o:Obj},W.heap[q]? =some o->W'.heap[q]? =some o:=λ{q o} b=>cY a b;exact⟨h.gr.below a,h.sc.below a,h.sep,h.rge,l h.bx,l h.bm,h.map.below a h.map.lt,h.own.below a,h.low.trans (a.mono (bt h.lt)),h.ge⟩
theorem Ro.read(h:Ro gb y A0 g r gv ps vs rv vv lg v bs pb W)(l:ed jU W' gb gb g r gv ps)(m:oS W' 0 y gb o_ qN yz rC)(hp:Sep ps qN)(hm:mR y rv qN W W'):Ro gb y A0 g r gv ps o_ qN yz rC v bs pb W':=by
 have key:∀{q:Nat} {o:Obj},W.heap[q]? =some o->(∀c,o≠.cells c 119 (0,0))->(∀c,o≠.cells c 3 (0,0))->W'.heap[q]? =some o:=λ{q o} i n p=>hm.same q o i (λe=>by
  subst e;have a:=h.sc.fW;rw[i]at a;cases a;exact n _ rfl) λe=>by
   obtain⟨_,cur,hc⟩:=h.sc.lt.2 q e.symm;rw[i]at hc;cases hc;exact p _ rfl
 have ty:∀{c d:Array Value} {t a:TypeId} {f j:Nat×Nat},t≠a->Obj.cells c t f≠.cells d a j:=λs e=>by
  simp only[Obj.cells.injEq]at e;exact s e.2.1
 obtain⟨es,c,j⟩:=h.map.agr;refine⟨l,m,hp,λq e=> ?_,key h.bx (λc=>ty (by decide)) (λc=>ty (by decide)),key h.bm (λc=>ty (by decide)) (λc=>ty (by decide)),h.map.same λo a=>key a (λc e=> ?_) (λc e=> ?_),h.own.keep λb cur t f d k=>key d (λc=>ty ?_) (λc=>ty ?_),h.low.trans (hm.toBelow h.ge h.rge (bt h.lt)),h.ge⟩
 ·rcases hm.new with d|⟨w,d,u⟩
  ·exact h.rge q (d.symm.trans e)
  ·rw[e]at d;cases d;exact ai (bt h.lt) u
 ·rw[j]at a;cases a;cases e
 ·rw[j]at a;cases a;cases e
 ·rcases k with rfl|rfl<;>decide
 ·rcases k with rfl|rfl<;>decide
theorem Ro.snoc(h:Ro gb y A0 g r gv ps vs rv vv lg v bs pb W)(k:W'.ownsRow gb 69 4 v' (bs.length+1) (gV bs pb++[.int .i64 b.var,.int .i64 b.jL.a,.int .i64 b.jL.n,p]))(d:W.grownBy W' v.ownBlock)
 (hp:iJ (nO 26 gb) W p b.jL.k):Ro gb y A0 g r gv ps vs rv vv lg v' (bs++[b]) (pb++[p]) W':=by
 have key:∀{q:Nat} {o:Obj},W.heap[q]? =some o->(∀c,o≠.cells c 69 (0,0))->W'.heap[q]? =some o:=λ{q o} i l=>(d.block q (gE i).1 λe=>by
  obtain⟨_,cur,hc⟩:=h.own.block e.symm;rw[i]at hc;cases hc;exact l _ rfl).trans i
 have ty:∀{c j:Array Value} {t a:TypeId} {f m:Nat×Nat},t≠a->Obj.cells c t f≠.cells j a m:=λn e=>by
  simp only[Obj.cells.injEq]at e;exact n e.2.1
 obtain⟨es,c,m⟩:=h.map.agr;have j:ed jU W' gb gb g r gv ps:=h.gr.js (Z:=λ_=>False) (λ_ _ _ _ _ _ _ s=>s) (λo a=>key a λc e=>by
  rw[h.gr.fW]at a;cases a;exact ty (by decide) e) (λq o e a=>by
   obtain⟨cur,hc,_⟩:=h.gr.ey e;rw[hc]at a;cases a;exact key hc λc=>ty (by decide)) (λb cur f s _=>key s λc=>ty (by decide))
 refine⟨j,h.sc.keep (λo a=>key a λc e=>by rw[h.sc.fW]at a;cases a;exact ty (by decide) e) (λq o e a=>by
  obtain⟨_,cur,hc⟩:=h.sc.lt.2 q e;rw[hc]at a;cases a;exact key hc λc=>ty (by decide)),h.sep,h.rge,key h.bx λc=>ty (by decide),key h.bm λc=>ty (by decide),h.map.same λo a=>key a λc e=> ?_,h.own.snoc k d hp,Below.grown h.low d (bt h.lt) (λq e=>(h.own.block e).1),h.ge⟩
 rw[m]at a;cases a;cases e
theorem eu.Yt{mb:Nat}{f:Int->Option Value}(h:eu eT w mb f)(k:Int):∀(d:Nat) (os:Array Obj),(Instr.lookup 120 (.map (some mb)) (.int .i64 k) false).run Tryz.prog (grow (redrawn w d) os)=.ok ((f k).getD (.int .i64 0)) (grow (redrawn w d) os):=λd os=>by
 cases a:f k with
 |some v=>exact(lp (T:=120) (et:=3) (P:=Tryz.prog) Tryz.underlying120 gU (h.below (below_regrown w d os) h.lt) (k:=k) a false).trans rfl
 |none=>exact(pE (T:=120) (et:=3) (P:=Tryz.prog) Tryz.underlying120 gU (z:=.int .i64 0) (λw=>by kernel_rfl) (h.below (below_regrown w d os) h.lt) (k:=k) a false).trans rfl
theorem PG(h:Ro gb y A0 g r gv ps vs rv vv lg v bs pb W)(n:Int)(o:0<=n/\n<(vs.length:Nat))(p:vs.length<=1000000000):
 Calls Tryz.prog 81 #[.int .i64 n,.pointer (some ⟨y+3,0,none⟩),.pointer (some ⟨y+1,0,none⟩)] W λe W'=>e=.returned (.int .i64 (JX g vs n))/\Below W.heap.size W W':=by
 obtain⟨k,rfl⟩:∃k:Nat,n=k:=⟨n.toNat,by omega⟩;obtain⟨a,b⟩:=o;have u:k<vs.length:=by omega
 have c:=h.map.Yt (vs[k]?.getD 0);have d:=Yq g vs (k:Nat);rw[bw]at d;rw[d]at c;obtain⟨φ,i⟩:=xE (JX g vs (k:Nat));rw[<-i]at c |-;obtain⟨x,f⟩:=xE (vs[k]?.getD 0);rw[<-f]at c;have j:=Ints.QE h.sc.own (by omega);obtain⟨w,z,rfl⟩:=cr h.sc.own;unfold Ints at j;obtain⟨_,A,B,he,_,_,l⟩:=j;obtain⟨nb,no,q,s,m⟩:=l (by omega);cases he;subst q;have d0:W.cell? ⟨nb,no+k,none⟩=some (.int .i64 x):=by
  rw[m k (by omega)];rw[f];rfl
 have c0:=cZ h.bm;have c1:=cZ h.bx;have c2:=eY h.sc.fW;have z0:=af c0;have t:=af c1;have z2:=af c2;have z3:=af d0;have C:(k:Int)<(vs.length:Int):=by omega
 generalize vs.length=L at*;clear h m l s d i f p a b
 go_enter Tryz.func81,Tryz.ntmps81
 go_wp2_with fail
 refine aM (by kernel_rfl) (by kernel_rfl) ?_
 repeat go_big_quiet_step (fail)
 refine wpQuiet_nil ?_;intro V a;have b:=hI a;clear a d0 c0 c1 c2 z0 t z2 z3;go_wp2;go_ret;exact⟨rfl,b.o⟩
end
theorem Rp{a:List Value}(b:k<20)(c:a[k]? =some (.int .i64 (k:Nat)))(w:World):(Instr.index 111 (.agg a.toArray) (.int .i64 (k:Nat))).run Tryz.prog w=.ok (.int .i64 (k:Nat)) w:=by
 simp[Instr.index,run_underlying Tryz.underlying111,asIntOf,go_sem,b,c]
end
section
abbrev TN:=List (Int×Nd)
def Yu(n:Int)(u:Nd):TN->Option TN
 |[]=>some [(n,u)]
 |(m,t)::l=>if m<n then(Yu n u l).map λa=>(m,t)::a else if m=n then(if t=u then some ((m,t)::l)else none)else some ((n,u)::(m,t)::l)
def C2:TN->Int->Option Nd
 |[],_=>none
 |(m,t)::l,n=>if m=n then some t else C2 l n
def Yv:TN->Prop
 |[]=>True
 |(m,_)::l=>(∀q∈l,m<q.1)/\Yv l
theorem Yw(n:Int):C2 [] n=none:=rfl
theorem wJ(m:Int)(t:Nd)(l:TN)(n:Int):C2 ((m,t)::l) n=if m=n then some t else C2 l n:=rfl
theorem TO(n:Int)(u:Nd)(m:Int)(t:Nd)(l:TN):Yu n u ((m,t)::l)=if m<n then(Yu n u l).map λa=>(m,t)::a else if m=n then(if t=u then some ((m,t)::l)else none)else some ((n,u)::(m,t)::l):=rfl
theorem IF{n:Int}:∀{l:TN},(∀q∈l,n<q.1)->C2 l n=none
 |[],_=>rfl
 |(m,t)::l,h=>by
  have:=h (m,t) aO;unfold C2;rw[ah (by simp only at this;omega)];exact IF λq a=>h q (aS _ a)
theorem TP(n:Int)(u:Nd):∀(l:TN),Yv l->(match C2 l n with
 |none=>∃c,Yu n u l=some c/\Yv c/\(∀q∈c,q=(n,u)\/q∈l)/\∀x,C2 c x=if x=n then some u else C2 l x
 |some t=>Yu n u l=if t=u then some l else none)
 |[],_=>⟨[(n,u)],rfl,⟨λq a=>(by cases a),trivial⟩,λq a=>.inl (aJ.1 a),λx=>by
  rw[wJ,Yw];by_cases h:n=x
  ·rw[aq h,aq h.symm]
  ·rw[ah h,ah λe=>h e.symm]⟩
 |(m,t)::l,⟨d,j⟩=>by
  have f:=TP n u l j;rw[wJ,TO];by_cases i:m<n
  ·rw[ah (by omega),aq i];cases k:C2 l n with
   |none=>
    rw[k]at f;obtain⟨c,i1,i2,i3,i4⟩:=f;refine⟨(m,t)::c,by rw[i1];rfl,⟨λq a=> ?_,i2⟩,λq a=> ?_,λx=> ?_⟩
    ·rcases i3 q a with rfl|a
     ·exact i
     ·exact d q a
    ·rcases aE.1 a with rfl|a
     ·exact .inr aO
     ·exact(i3 q a).imp id (aS _)
    ·rw[wJ,wJ];by_cases b:m=x
     ·rw[aq b,ah (by omega),aq b]
     ·rw[ah b,ah b,i4]
   |some o=>
    rw[k]at f;simp only;rw[f];by_cases g:o=u
    ·rw[aq g,aq g];rfl
    ·rw[ah g,ah g];rfl
  ·rw[ah i];by_cases g:m=n
   ·rw[aq g,aq g]
   ·rw[ah g,ah g,IF (l:=l) (n:=n) λq a=>by have:=d q a;omega];refine⟨_,rfl,⟨λq a=> ?_,d,j⟩,λq a=> ?_,λx=> ?_⟩
    ·rcases aE.1 a with rfl|a
     ·show n<m;omega
     ·have:=d q a;omega
    ·rcases aE.1 a with rfl|a
     ·exact .inl rfl
     ·exact .inr a
    ·show(if n=x then some u else if m=x then some t else C2 l x)=if x=n then some u else if m=x then some t else C2 l x;by_cases b:n=x
     ·rw[aq b,aq b.symm]
     ·rw[ah b,ah (show ¬x=n from λe=>b e.symm)]
def Gy(n:Nat)(M:Met):TN:=(List.range n).filterMap λi=>(M (i:Nat)).map λt=>(((i:Nat):Int),t)
theorem IG(M:Met)(n:Nat):Gy (n+1) M=Gy n M++match M (n:Nat)with|none=>[]|some t=>[((n:Int),t)]:=by
 unfold Gy;rw[List.range_succ,List.filterMap_append]
 congr 1
 cases a:M (n:Nat)with
 |none=>simp[a]
 |some t=>simp[a]
def PH(a b:Nd):Option TN:=(yB a b λ_=>none).map (Gy 20)
end
section
open Go Go.RowKit
attribute [local go_sem] aT cW df
theorem Tryz.Yx:(Tryz.prog.info? 69).map (λi=>(i.zero,i.size,i.bytes))=some (some (.agg #[.int .i64 0,.int .i64 0,.int .i64 0,.slice none 0 0]),4,48):=by kernel_rfl
def PI(q:Int×Nd):Bd:=⟨q.1,q.2⟩
theorem PK:∀F:Fo,F.Cc (λn=>n)=F
 | .nil=>rfl
 | .cons a n k r=>by unfold Fo.Cc;rw[PK k,PK r];split<;>rfl
theorem BJ:∀F:Fo,F.Br λ_=>True
 | .nil=>trivial
 | .cons a n k r=>⟨λ_=>trivial,BJ k,BJ r⟩
theorem AF{z:Nat}:∀{F G:Fo} {M g:Met},(∀n t,M n=some t->t.size<=z)->G.size<=z->tg F G M=some g->∀n t,g n=some t->t.size<=z
 | .nil,.nil,M,g,h,_,e=>by cases e;exact h
 | .nil,.cons _ _ _ _,_,_,_,_,e=>by cases e
 | .cons _ _ _ _,.nil,_,_,_,_,e=>by cases e
 | .cons a n k r,.cons i j d r',M,g,h,o,e=>by
  unfold tg at e;have p:1+d.size+r'.size<=z:=o;have q:∀{f:Met},Jt M n ⟨i,j,d⟩=some f->∀x t,f x=some t->t.size<=z:=λ{f} b x t c=>by
   unfold Jt at b;cases l:M n with
   |none=>
    rw[l]at b;cases b;have c:(if x=n then some (⟨i,j,d⟩:Nd)else M x)=some t:=c;by_cases m:x=n
    ·rw[aq m]at c;cases c;show 1+d.size<=z;omega
    ·rw[ah m]at c;exact h x t c
   |some m=>
    rw[l]at b;simp only at b
    split at b
    ·cases b;exact h x t c
    ·cases b
  by_cases l:a=1
  ·rw[aq l]at e;cases hm:Jt M n ⟨i,j,d⟩with
   |none=>rw[hm]at e;cases e
   |some f=>rw[hm]at e;exact AF (q hm) (by omega) e
  ·rw[ah l]at e;by_cases m:a=i/\n=j
   ·rw[aq m]at e;cases hm:tg k d M with
    |none=>rw[hm]at e;cases e
    |some f=>rw[hm]at e;exact AF (AF h (by omega) hm) (by omega) e
   ·rw[ah m]at e;cases e
theorem TQ{t u:Nd}{a:Met}(e:yB t u (λ_=>none)=some a):∀n x,a n=some x->x.size<=u.size:=by
 have h:tg t.one u.one (λ_=>none)=some a:=by
  have:tg t.one u.one (λ_=>none)=(yB t u λ_=>none).bind (tg .nil .nil):=rfl;rw[this,e];rfl
 intro n x b;have:=AF (z:=u.size) (λn t h=>by cases h) (by rw[Nd.jr];exact lR) h n x b;exact this
def Yy(w:World)(ok:Bool)(r:Option TN)(e:Ending)(w':World):Prop:=Below w.heap.size w w'/\match ok,r with
 |false,_=>e=.returned (.tuple #[.slice none 0 0,.int .i64 2])
 |true,none=>e=.returned (.tuple #[.slice none 0 0,.int .i64 7])
 |true,some l=>∃v,e=.returned (.tuple #[v,.int .i64 0])/\lz w' w'.heap.size v (l.map PI)
theorem PL(n:Int)(W:World):Calls Tryz.prog 85 (#[.int .i64 n]++ #[]) W λe W'=>e=.returned (.int .i64 n)/\Below W.heap.size W W':=by
 go_enter Tryz.func85,Tryz.ntmps85
 go_wp2;go_ret;exact⟨rfl,bR⟩
theorem TR(ds:List fV)(a b:Nd)(dv av bv:Value)(w:World)(B:Nat)(hd:eB w B dv ds)(ha:cV w B av a)(hb:cV w B bv b)(hB:B<=w.heap.size):
 Calls Tryz.prog 17 #[dv,av,bv] w (Yy w (dg ds&&dB ds 20 a&&dB ds 20 b) (PH a b)):=by
 obtain⟨sv,rfl,l⟩:=ha;obtain⟨xv,rfl,hy⟩:=hb;obtain⟨sa,sc,rfl⟩:=l.slice;obtain⟨ya,yc,rfl⟩:=hy.slice;obtain⟨W2,p,g,j⟩:=UP w (.cells #[.int .i64 a.a,.int .i64 a.n,.slice sa a.k.len sc] 26) (.cells #[.int .i64 b.a,.int .i64 b.n,.slice ya b.k.len yc] 26);have HA:Hd (∀V,Below w.heap.size w V->cV V w.heap.size (.agg #[.int .i64 a.a,.int .i64 a.n,.slice sa a.k.len sc]) a):=hI λV G=>⟨_,rfl,(l.mono hB).below G lR⟩;have Co:Hd (∀V,Below w.heap.size w V->cV V w.heap.size (.agg #[.int .i64 b.a,.int .i64 b.n,.slice ya b.k.len yc]) b):=hI λV G=>⟨_,rfl,(hy.mono hB).below G lR⟩;have HD:Hd (∀V,Below w.heap.size w V->eB V w.heap.size dv ds):=hI λV G=>(hd.mono hB).below G lR;have fw:=hI (pf ds a dv _ W2 w.heap.size (HD.o _ g) (HA.o _ g) g.size);have iK:Hd (∀V,Below w.heap.size w V->aH Tryz.prog 53 #[dv,.agg #[.int .i64 b.a,.int .i64 b.n,.slice ya b.k.len yc]] V (.int .i64 (if dg ds&&dB ds 20 b then 0 else 2))):=hI λV G=>pf ds b dv _ V w.heap.size (HD.o V G) (Co.o V G) G.size;obtain⟨cR,lG,T6⟩:=h_3 g j p;have m:dB ds 20 b=true->b.size<=20:=λh=>by unfold dB at h;rw[ak]at h;exact bu h.1
 have d:=hI m;have x0:=cZ j.1;have x1:=eY j.1;have x2:=fu j.1;have zx:=af x0;generalize dg ds=c at fw iK |-;generalize G:dB ds 20 a=ta at fw |-;generalize O:dB ds 20 b=tb at iK d |-;unfold aH at fw iK;clear hd l hy hB g j p G O m;cases I:(c&&ta)with
 |false=>
  rw[I]at fw;simp only[bF,if_false]at fw;simp only[Bool.false_and];clear I
  go_enter Tryz.func17,Tryz.ntmps17
  exact ant
 |true=>
  rw[I]at fw;simp only[if_true]at fw;obtain⟨rfl,rfl⟩:c=true/\ta=true:=by simpa using I
  clear I;simp only[aU]at iK |-;cases tb with
  |false=>
   simp only[bF,if_false]at iK
   go_enter Tryz.func17,Tryz.ntmps17
   exact amP
  |true=>
   simp only[if_true]at iK;have m:b.size<=20:=d.o rfl;have T8:=hI m;clear m d;have CT:= @run_makeMap Tryz.prog;have EL:∀(fn:Fn) (first cap:Array Value) (w:World),(Instr.makeFunc fn first cap).run Tryz.prog w=.ok (.func fn first cap) w:=λ_ _ _ _=>rfl;have eg:∀args w,(callFunc 82 args).run Tryz.prog w=.ok (.enter 82 args) w:=enters_of Tryz.func82 (by kernel_rfl) rfl;obtain⟨R,g⟩:=xE (yB a b λ_=>none);have G:PH a b=R.map (Gy 20):=by rw[g];rfl
   rw[G];have Ip:=hI g;clear g G
   go_enter Tryz.func17,Tryz.ntmps17
   go_upto_region 1 with fail
   rw[<-T6.o]
   go_wp2_with fail
   refine fw.o.mono ?_;rintro e w3 ⟨rfl,cP⟩;have G:=cY cP lG.o.1;have k2:=cY cP lG.o.2;have c_:=ag cR.o cP lR;obtain⟨AK,ir,K1,K2⟩:=h_4 (iK.o w3 c_) c_ G k2;clear cP x0 x1 x2 zx c_;have y0:=cZ k2;have y1:=eY k2;have y2:=fu k2;have zy:=af y0;clear G k2
   go_wp2_with fail
   refine AK.o.mono ?_;rintro e w4 ⟨rfl,dV⟩;have l:=ag ir.o dV lR;have G:=cY dV K1.o;have k2:=cY dV K2.o;clear y0 y1 y2 zy;obtain⟨Q,p,j,r⟩:=UQ w4 (.map #[] 0) (.cells #[.map (some w4.heap.size)] 123) (.cells #[.func (.func 82) #[] #[.pointer (some ⟨w4.heap.size+1,0,none⟩),.pointer (some ⟨w4.heap.size+2,0,none⟩)]] 59);have O:Cd Q w4.heap.size w4.heap.size (w4.heap.size+1) (w4.heap.size+2) (λ_=>none):=⟨⟨λ_=>none,⟨[],⟨#[],0,r.1,by simp,by simp,by simp⟩,by simp,λ_=>rfl⟩,λn=>rfl⟩,r.2.1,r.2.2,lR⟩;have g:=ag l j lR;have G:=cY j G;have k2:=cY j k2;have hc:=Hs (B:=w4.heap.size) (mb:=w4.heap.size) (qm:=w4.heap.size+1) (qf:=w4.heap.size+2) a.size a b _ _ Q (λ_=>none) lR ((HA.o Q g).mono l.size) ((Co.o Q g).mono l.size) O j.size;rw[<-Ip.o]at hc;obtain⟨HC,HW7,yV,S,A⟩:=h_5 hc p g l.size j.size;have cf:=cZ r.2.2;have zf:=af cf;have x0:=cZ G;have x1:=eY G;have x2:=fu G;have zx:=af x0;have y0:=cZ k2;have y1:=eY k2;have y2:=fu k2;have zy:=af y0;clear dV l G k2 j r O g hc p
   go_upto_region 6 with fail
   rw[<-HW7.o];cases R with
   |none=>
    go_wp2_with fail
    refine HC.o.mono ?_;rintro e p ⟨g,⟨M',J,_⟩|⟨_,rfl⟩⟩
    ·cases J
    have kG:=hI (yV.o.trans (g.toBelow (n:=w.heap.size) (ai S.o A.o) λq e=>by rw[e];exact S.o));clear g cf zf x0 x1 x2 zx y0 y1 y2 zy;go_wp2
    go_ret2
    exact⟨kG.o,rfl⟩
   |some M=>
    go_wp2_with fail
    refine HC.o.mono ?_;rintro e p ⟨g,⟨M',J,rfl,G⟩|⟨J,_⟩⟩
    case inr=>cases J
    cases J;have kG:=hI (yV.o.trans (g.toBelow (n:=w.heap.size) (ai S.o A.o) λq e=>by rw[e];exact S.o));have HF8:=hI G;have HMZ:Hd (∀n x,M n=some x->x.size<=20):=hI λn x l=>ai (TQ Ip.o.symm n x l) T8.o;have C:Hd (w4.heap.size<=p.heap.size):=hI (ai A.o g.size);obtain⟨i0,hi,zW,sZ,xw⟩:=info_parts Tryz.Yx;clear g G cf zf x0 x1 x2 zx y0 y1 y2 zy;go_wp2
    go_loopw [10,31] (λbv i wr=>∃(k:Nat) (ps:List Value),k<=20/\i=.int .i64 k/\Below p.heap.size p wr/\mE wr p.heap.size bv ((Gy k M).map PI) ps/\((Gy k M).map PI).length<=k) (λ_ i _=>20-(intOf i).toNat)
    case atStart=>exact⟨0,[],aw _,rfl,bR,mE.nil _ _,lR⟩
    case round=>
     obtain⟨k,ps,hk,rfl,r,s,hlen⟩:=hrel;obtain⟨ba,bc,rfl⟩:=cr s.own;obtain⟨L,F⟩:=xE ((Gy k M).map PI);rw[<-F]at s hlen |-;have wQ:=hI F;have j:=HF8.o.below r C.o;have cm:=cZ j.bm;have zm:=af cm;have U:=hI hlen;by_cases bO:k<20
     ·have om:(k:Int)<20:=by omega
      have H:=hI bO;obtain⟨f,X,sW⟩:=j.met;have v:=sW (k:Nat);cases D:M (k:Nat)with
      |none=>
       rw[D]at v;have K:=pE (w:=_) (T:=123) (et:=26) (P:=Tryz.prog) Tryz.underlying123 gU (z:=.agg #[.int .i64 0,.int .i64 0,.slice none 0 0]) (λw=>by kernel_rfl) X (k:=(k:Nat)) v true;simp only[if_true]at K;unfold eT at K;have N:Hd ((Gy (k+1) M).map PI=L):=hI (by rw[IG,D,bk,F]);have y:=Below.cA wr (.cells #[.int .i64 0,.int .i64 0,.slice none 0 0] 26);have Y:=hI (ag r y lR);have E:=hI (s.below y);clear j r s hlen sW X v D F bO y;go_wp2
       go_roundw
       case rel=>exact⟨k+1,ps,H.o,by go_num,Y.o,by rw[N.o];exact E.o,by rw[N.o];have:=U.o;omega⟩
       case measure=>have:=H.o;simp[intOf];omega
      |some t=>
       rw[D]at v;obtain⟨v',v,sv',rfl,l⟩:=v;obtain⟨a',c',rfl⟩:=l.slice;have K:=lp (w:=_) (T:=123) (et:=26) (P:=Tryz.prog) Tryz.underlying123 gU X (k:=(k:Nat)) v true;simp only[if_true]at K;unfold eT at K;have N:Hd ((Gy (k+1) M).map PI=L++[⟨(k:Nat),t⟩]):=hI (by rw[IG,D,bA,F];rfl);have y:=Below.cA wr (.cells #[.int .i64 t.a,.int .i64 t.n,.slice a' t.k.len c'] 26);have G:=ag r y lR;have O:=vr (gf:=85) (caps:= #[]) (φ:=λn=>n) (P:=λ_=>True) (W0:=p) (enters_of Tryz.func85 (by kernel_rfl) rfl) (λn W _ _=>PL n W) t.size t (.agg #[.int .i64 t.a,.int .i64 t.n,.slice a' t.k.len c']) (wr.alloc (.cells #[.int .i64 t.a,.int .i64 t.n,.slice a' t.k.len c'] 26)) w4.heap.size lR ⟨_,rfl,l.below y (by have:=C.o;have:=r.size;omega)⟩ (by have:=C.o;have:=G.size;omega) (λ_=>trivial) (BJ _) G (by have:=HMZ.o _ _ D;omega);rw[PK,ite_self]at O;obtain⟨YA,Y,E⟩:=h_3 O G (s.below y);clear j r s hlen sW X v D F bO y G O l
       go_wp2_with fail
       refine YA.o.mono ?_;rintro e FH ⟨kv,rfl,uA,G⟩;have IE:=ag Y.o G lR;obtain⟨Z,Ad,rfl⟩:=uA.slice;have gS:=Below.cA FH (.cells #[.int .i64 (k:Nat),.int .i64 t.a,.int .i64 t.n,.slice Z t.k.len Ad] 69);have m:=ag IE gS lR;have l:=hI ((E.o.below G).below gS);have O:Hd (iJ (nO 26 p.heap.size) _ (.slice Z t.k.len Ad) t.k):=hI ((uA.keep (gN.below gS)).mono λb o _ hS=>⟨by have:=hS.1;have:=Y.o.size;omega,hS.2⟩);have JJ:=hI (a_ FH (.cells #[.int .i64 (k:Nat),.int .i64 t.a,.int .i64 t.n,.slice Z t.k.len Ad] 69));have d:=hI m;clear uA G IE gS m YA
       go_wp2_with (at_builtin;refine wpList_append_own_at _ rfl _ _ 29 rfl p.heap.size 69 i0 _ 4 48 Tryz.underlying29 hi zW sZ xw rfl (by decide) _ _ _ rfl l.o.own ⟨FH.heap.size,0,none⟩ 1 1 [.int .i64 (k:Nat),.int .i64 t.a,.int .i64 t.n,.slice Z t.k.len Ad] rfl rfl ?c1 ?c2 ?c3 ?c4 ?c5 ?_)
       case c1=>
        intro jj u G;rw[Addr.add_lit,a8,cell_of_row _ _ _ _ _ _ JJ.o,aF];exact G
       case c2=>
        exact ang
       case c3=>have:=U.o;have:=H.o;unfold maxLen;omega
       case c4=>have:=U.o;have:=H.o;omega
       case c5=>have:=d.o.size;omega
       intro v' Kl G cJ _ mF;obtain⟨uB,uC,rfl⟩:=cr G;have rH:=iI l.o.own;have wT:=l.o.snoc (b:=⟨(k:Nat),t⟩) G cJ O.o;have HS:=hI wT;have CI:=hI (d.o.grown cJ d.o.size λq hq=>(rH q hq).1);clear G cJ mF rH wT l O JJ d;go_wp2
       go_roundw
       case rel=>exact⟨k+1,_,H.o,by go_num,CI.o,by rw[N.o];simpa using HS.o,by rw[N.o,az];have:=U.o;simp;omega⟩
       case measure=>have:=H.o;simp[intOf];omega
     ·obtain rfl:k=20:=by omega
      have l:=hI (s.at_ (by omega));have G:=hI (ag kG.o r (by have:=kG.o.size;exact lR));clear j r s hlen cm zm;go_wp2
      go_ret2
      refine⟨G.o,_,rfl,?_⟩;rw[<-wQ.o];exact l.o
end
section
open Go Go.RowKit Go.Sort
attribute [local go_sem] aT cW df nV uV
theorem wK(k:Nat):(iX k).length=k:=by unfold iX;simp
def Rq(q:Nat×Nd):Bd:=⟨(q.1:Nat),q.2⟩
def PM(w:World)(ok:Bool)(r:PY (List (Nat×Nd)))(e:Ending)(w':World):Prop:=Below w.heap.size w w'/\match ok,r with
 |false,_=>e=.returned (.tuple #[.slice none 0 0,.int .i64 2])
 |true,.rp=>e=.returned (.tuple #[.slice none 0 0,.int .i64 7])
 |true,.px=>e=.returned (.tuple #[.slice none 0 0,.int .i64 3])
 |true,.ok l=>∃v,e=.returned (.tuple #[v,.int .i64 0])/\lz w' w'.heap.size v (l.map Rq)
theorem ki.nil{gb:Nat}{W:World}(h:W.heap[gb]? =some (.cells #[.slice none 0 0] 110 (0,0))):ki gb (λ_=>False) (iX 0) W:=
 ⟨⟨none,.slice none 0 0,[],⟨h,rfl,aZ _ _ _ _,rfl,λi hi=>ay hi (ax _),lR⟩,λp hp=>by cases hp⟩,λq a=>a.elim⟩
theorem TT:w_ 0= #[.int .i64 0,.int .i64 0,.int .i64 0,.int .i64 0,.int .i64 0,.int .i64 0,.int .i64 0,.int .i64 0,.int .i64 0,.int .i64 0,.int .i64 0,.int .i64 0,.int .i64 0,.int .i64 0,.int .i64 0,.int .i64 0,.int .i64 0,.int .i64 0,.int .i64 0,.int .i64 0]:=rfl
theorem FK{ds:List fV}{t:Nd}(h:dB ds 20 t=true):t.one.nr/\(∀x,t.one.has x->0<=x/\x.toNat<20)/\t.size<=20/\t.ok:=by
 obtain⟨c,d,a⟩:=wC h;refine⟨tH (Mv h),λx b=> ?_,?_,L7 h⟩
 ·have:=a x b;omega
 ·unfold dB at h;rw[ak]at h;exact bu h.1
theorem II(ds:List fV)(a b:Nd)(dv av bv:Value)(w:World)(B:Nat)(hd:eB w B dv ds)(I:cV w B av a)(hb:cV w B bv b)(hB:B<=w.heap.size):
 Calls Tryz.prog 16 #[dv,av,bv] w (PM w (dg ds&&dB ds 20 a&&dB ds 20 b) (MN true a b)):=by
 obtain⟨sv,rfl,s⟩:=I;obtain⟨xv,rfl,hy⟩:=hb;obtain⟨sa,sc,rfl⟩:=s.slice;obtain⟨ya,yc,rfl⟩:=hy.slice;obtain⟨W2,D,G,u⟩:=UP w (.cells #[.int .i64 a.a,.int .i64 a.n,.slice sa a.k.len sc] 26) (.cells #[.int .i64 b.a,.int .i64 b.n,.slice ya b.k.len yc] 26);have HA:Hd (∀V,Below w.heap.size w V->cV V w.heap.size (.agg #[.int .i64 a.a,.int .i64 a.n,.slice sa a.k.len sc]) a):=hI λV hV=>⟨_,rfl,(s.mono hB).below hV lR⟩;have Co:Hd (∀V,Below w.heap.size w V->cV V w.heap.size (.agg #[.int .i64 b.a,.int .i64 b.n,.slice ya b.k.len yc]) b):=hI λV hV=>⟨_,rfl,(hy.mono hB).below hV lR⟩;have HD:Hd (∀V,Below w.heap.size w V->eB V w.heap.size dv ds):=hI λV hV=>(hd.mono hB).below hV lR;have fw:=hI (pf ds a dv _ W2 w.heap.size (HD.o _ G) (HA.o _ G) G.size);have iK:Hd (∀V,Below w.heap.size w V->aH Tryz.prog 53 #[dv,.agg #[.int .i64 b.a,.int .i64 b.n,.slice ya b.k.len yc]] V (.int .i64 (if dg ds&&dB ds 20 b then 0 else 2))):=hI λV hV=>pf ds b dv _ V w.heap.size (HD.o V hV) (Co.o V hV) hV.size;obtain⟨cR,lG,T6⟩:=h_3 G u D;have Gg:Hd (dB ds 20 a=true->_):=hI λh=>FK (ds:=ds) (t:=a) h;have Kc:Hd (dB ds 20 b=true->_):=hI λh=>FK (ds:=ds) (t:=b) h;have x0:=cZ u.1;have x1:=eY u.1;have x2:=fu u.1;have zx:=af x0;generalize dg ds=c at fw iK |-;generalize dB ds 20 a=ta at fw Gg |-;generalize dB ds 20 b=tb at iK Kc |-;unfold aH at fw iK;clear hd s hy hB G u D;cases Yz:(c&&ta)with
 |false=>
  rw[Yz]at fw;simp only[bF,if_false]at fw;simp only[Bool.false_and];clear Yz
  go_enter Tryz.func16,Tryz.ntmps16
  exact ant
 |true=>
  rw[Yz]at fw;simp only[if_true]at fw;obtain⟨rfl,rfl⟩:c=true/\ta=true:=by simpa using Yz
  clear Yz;simp only[aU]at iK |-;cases tb with
  |false=>
   simp only[bF,if_false]at iK
   go_enter Tryz.func16,Tryz.ntmps16
   exact amP
  |true=>
   simp only[if_true]at iK;obtain⟨ka,va,s,G⟩:=Gg.o rfl;obtain⟨D,vb,zb,u⟩:=Kc.o rfl;have CV:=hI (show _/\_/\_/\_ from⟨ka,va,s,G⟩);have B_:=hI (show _/\_/\_/\_ from⟨D,vb,zb,u⟩);clear ka va s G D vb zb u Gg Kc;have CT:= @run_makeMap Tryz.prog;have EL:∀(fn:Fn) (first cap:Array Value) (w:World),(Instr.makeFunc fn first cap).run Tryz.prog w=.ok (.func fn first cap) w:=λ_ _ _ _=>rfl
   go_enter Tryz.func16,Tryz.ntmps16
   go_upto_region 1 with fail
   rw[<-T6.o]
   go_wp2_with fail
   refine fw.o.mono ?_;rintro e w3 ⟨rfl,cP⟩;have E:=cY cP lG.o.1;have k2:=cY cP lG.o.2;have c_:=ag cR.o cP lR;obtain⟨AK,ir,K1,K2⟩:=h_4 (iK.o w3 c_) c_ E k2;clear cP x0 x1 x2 zx c_;have y0:=cZ k2;have y1:=eY k2;have y2:=fu k2;have zy:=af y0;clear E k2
   go_wp2_with fail
   refine AK.o.mono ?_;rintro e w4 ⟨rfl,dV⟩;have A:=ag ir.o dV lR;have E:=cY dV K1.o;have k2:=cY dV K2.o;clear y0 y1 y2 zy;obtain⟨F,G,s,z⟩:=UQ w4 (.cells #[.slice none 0 0] 110) (.cells #[.pointer (some ⟨w4.heap.size,0,none⟩)] 107) (.cells #[.int .i64 0,.int .i64 0,.int .i64 0,.int .i64 0,.int .i64 0,.int .i64 0,.int .i64 0,.int .i64 0,.int .i64 0,.int .i64 0,.int .i64 0,.int .i64 0,.int .i64 0,.int .i64 0,.int .i64 0,.int .i64 0,.int .i64 0,.int .i64 0,.int .i64 0,.int .i64 0] 111);obtain⟨gb,u⟩:=xE w4.heap.size;have D:=G;rw[<-u]at s z G;rw[<-TT]at z;have E:=bQ E s (by rw[u];exact(gE E).1);have k2:=bQ k2 s (by rw[u];exact(gE k2).1);have HW7:=hI D;have HG:=hI u;have j:=ki.nil z.1;obtain⟨J,HN7,KK⟩:=h_3 j z (show _/\_ from⟨E,k2⟩);have H:Hd (w.heap.size<=gb/\w.heap.size+2<=gb):=hI (by rw[u];have h1:=(gE K2.o).1;have h2:=dV.size;omega);have yV:Hd (Below w.heap.size w F):=hI (A.trans (s.mono (by rw[u];exact A.size)));clear dV A E k2 s z j G D u
   go_upto_region 5 with fail
   rw[<-HW7.o];rw[<-HG.o];go_wp2
   go_loopw [36] (λi wr=>∃k:Nat,k<=20/\i=.int .i64 k/\ki gb (λ_=>False) (iX k) wr/\wr.heap[gb+2]? =some (.cells (w_ k) 111 (0,0))/\wr.heap[gb+1]? =some (.cells #[.pointer (some ⟨gb,0,none⟩)] 107 (0,0))/\Below gb F wr) (λi _=>20-(intOf i).toNat)
   case atStart=>exact⟨0,aw _,rfl,J.o,HN7.o.2.2,HN7.o.2.1,bR⟩
   case round=>
    obtain⟨k,hk,rfl,j,L,Ke,ep⟩:=hrel;by_cases m:k<20
    ·obtain⟨Q,D,u,A,dL⟩:=h_5 (Ye j (by rw[wK];omega)) L Ke ep m;have c0:=cZ Ke;have zc:=af c0;have om:(k:Int)<20:=by omega
     clear j L Ke ep
     go_wp2_with fail
     refine Q.o.mono ?_;rintro e s ⟨rfl,hu,hf⟩;clear c0 zc;have G:=hf.keep _ _ D.o (by exact⟨by decide,by decide⟩);have z:=hf.keep _ _ u.o (by exact⟨by decide,by decide⟩);have c0:s.cell? ⟨gb+2,k,none⟩=some (.int .i64 0):=by rw[cell_of_row _ _ _ _ _ _ G,vP m,ah (dy _)]
     have f0:s.frozen? ⟨gb+2,k,none⟩=false:=by simp[World.frozen?,G]
     have zc:=af c0;rw[wK];rw[FF]at hu;have M:=cz (o:=k) (v:=.int .i64 ((k:Nat):Int)) G;rw[<-Array.set!_eq_setIfInBounds,Yf m]at M;have N:Hd (ki gb (λ_=>False) (iX (k+1)) (s.setCell ⟨gb+2,k,none⟩ (.int .i64 ((k:Nat):Int)))/\(s.setCell ⟨gb+2,k,none⟩ (.int .i64 ((k:Nat):Int))).heap[gb+1]? =some (.cells #[.pointer (some ⟨gb,0,none⟩)] 107 (0,0))/\Below gb F (s.setCell ⟨gb+2,k,none⟩ (.int .i64 ((k:Nat):Int)))):=hI
      ⟨hu.but (q:=gb+2) ⟨rfl,rfl,rfl,by simp[World.setCell],λq o hq e=>(au _ _ _ _ hq).trans e⟩ (.inr ⟨_,_,_,G,by decide⟩) ⟨_,G,by exact⟨by decide,by decide⟩⟩,(au _ _ _ _ (show gb+1≠gb+2 by omega)).trans z,Below.setCell (p:=⟨gb+2,k,none⟩) (A.o.trans hf.low) (show gb<=gb+2 by omega) _⟩
     have HS:=hI M;clear hu hf G z M;go_wp2
     go_roundw
     case rel=>exact⟨k+1,dL.o,by go_num,N.o.1,HS.o,N.o.2.1,N.o.2.2⟩
     case measure=>have:=dL.o;simp[intOf];omega
    ·obtain rfl:k=20:=by omega
     obtain⟨OA,s⟩:=xE (dO (vfC (List.range 20)) a.one (iX 20) ());obtain⟨OB,z⟩:=xE (dO (vfC (List.range 20)) b.one OA.1.1 ());obtain⟨GA,G⟩:=xE OA.1.1;obtain⟨O,A⟩:=xE OB.1.1;obtain⟨X,N⟩:=xE (OA.2.headD 0);obtain⟨Y,Q⟩:=xE (OB.2.headD 0);have Tn:GA.length<=40:=by
      rw[G,s];have:=mC (vf:=vfC (List.range 20)) (λg v x=>Nat.le_succ _) a.one (iX 20) ();rw[wK,Nd.jr]at this;have:=CV.o.2.2.1;omega
     have JH:O.length<=60:=by
      rw[A,z];have:=mC (vf:=vfC (List.range 20)) (λg v x=>Nat.le_succ _) b.one OA.1.1 ();rw[Nd.jr]at this;have:=B_.o.2.2.1;rw[G]at Tn;omega
     have C:∀V,Below gb F V->V.heap[w.heap.size]? =some (.cells #[.int .i64 a.a,.int .i64 a.n,.slice sa a.k.len sc] 26 (0,0))/\V.heap[w.heap.size+1]? =some (.cells #[.int .i64 b.a,.int .i64 b.n,.slice ya b.k.len yc] 26 (0,0)):=λV hV=>
      ⟨(hV.block _ (by have:=H.o.2;omega)).trans KK.o.1,(hV.block _ (by have:=H.o.2;omega)).trans KK.o.2⟩
     have Uq:Hd (∀oa ob V,uw gb (gb+2) (gb+1) F oa ob (iX 20) V->Calls Tryz.prog 73 #[.pointer (some ⟨gb,0,none⟩),.agg #[.int .i64 a.a,.int .i64 a.n,.slice sa a.k.len sc],.func (.func 72) #[] #[.pointer (some ⟨gb+2,0,none⟩)]] V λe W'=>e=.returned (.int .i64 (X:Nat))/\ki gb (λq=>oa=some q\/ob=some q) GA W'/\qp gb V W'):=hI λoa ob V hp=>by
      have:=adb hp.un hp.arr CV.o.1 CV.o.2.1 ((HA.o V (yV.o.trans (hp.low.mono H.o.1))).mono H.o.1) (by rw[wK];have:=CV.o.2.2.1;omega);rw[<-s,<-N,<-G]at this;exact this
     have J_:Hd (∀oa ob V,uw gb (gb+2) (gb+1) F oa ob GA V->Calls Tryz.prog 73 #[.pointer (some ⟨gb,0,none⟩),.agg #[.int .i64 b.a,.int .i64 b.n,.slice ya b.k.len yc],.func (.func 72) #[] #[.pointer (some ⟨gb+2,0,none⟩)]] V λe W'=>e=.returned (.int .i64 (Y:Nat))/\ki gb (λq=>oa=some q\/ob=some q) O W'/\qp gb V W'):=hI λoa ob V hp=>by
      have:=adb hp.un hp.arr B_.o.1 B_.o.2.1 ((Co.o V (yV.o.trans (hp.low.mono H.o.1))).mono H.o.1) (by have:=B_.o.2.2.1;omega);rw[G,<-z,<-Q,<-A]at this;exact this
     have jY:Hd (∀V:World,V.heap[gb+1]? =some (.cells #[.pointer (some ⟨gb,0,none⟩)] 107 (0,0))->Below gb F V->V.cell? ⟨gb+1,0,none⟩=some (.pointer (some ⟨gb,0,none⟩))/\V.cell? ⟨w.heap.size,0,none⟩=some (.int .i64 a.a)/\V.cell? ⟨w.heap.size,1,none⟩=some (.int .i64 a.n)/\V.cell? ⟨w.heap.size,2,none⟩=some (.slice sa a.k.len sc)/\
      V.cell? ⟨w.heap.size+1,0,none⟩=some (.int .i64 b.a)/\V.cell? ⟨w.heap.size+1,1,none⟩=some (.int .i64 b.n)/\V.cell? ⟨w.heap.size+1,2,none⟩=some (.slice ya b.k.len yc)):=hI λV hp D=>by
      obtain⟨E,k2⟩:=C V D;exact⟨by rw[cell_of_row _ _ _ _ _ _ hp];rfl,by rw[cell_of_row _ _ _ _ _ _ E];rfl,by rw[cell_of_row _ _ _ _ _ _ E];rfl,by rw[cell_of_row _ _ _ _ _ _ E];rfl,by rw[cell_of_row _ _ _ _ _ _ k2];rfl,by rw[cell_of_row _ _ _ _ _ _ k2];rfl,by rw[cell_of_row _ _ _ _ _ _ k2];rfl⟩
     have Dr:=hI C;have G_:=hI (show _/\_ from⟨Ke,ep⟩);have D:Hd (uw gb (gb+2) (gb+1) F none none (iX 20) wr):=hI ⟨j.z (λq hq=>by rcases hq with h|h<;>cases h),L,Ke,λq h=>(by cases h),λq h=>(by cases h),λq h=>(by cases h),λq h=>(by rcases h with h|h<;>cases h),ep⟩;have M:=hI (show _/\_/\_/\_/\_/\_ from⟨s,z,G,A,N,Q⟩);have ale:=hI JH;clear j L Ke ep s z G A N Q Tn JH C
     go_wp2_with fail
     apply Qy (R:=fun(qa qb:Nat) W'=>adg gb (gb+2) (gb+1) F O (.int .i64 (X:Nat)) (.int .i64 (Y:Nat)) qa qb W')
     case h=>
      refine wp_region_held_drew (S:=λV=>V.cell? ⟨gb+1,0,none⟩=some (.pointer (some ⟨gb,0,none⟩))/\V.cell? ⟨w.heap.size,0,none⟩=some (.int .i64 a.a)/\V.cell? ⟨w.heap.size,1,none⟩=some (.int .i64 a.n)/\V.cell? ⟨w.heap.size,2,none⟩=some (.slice sa a.k.len sc)/\
       V.cell? ⟨w.heap.size+1,0,none⟩=some (.int .i64 b.a)/\V.cell? ⟨w.heap.size+1,1,none⟩=some (.int .i64 b.n)/\V.cell? ⟨w.heap.size+1,2,none⟩=some (.slice ya b.k.len yc)) (by kernel_rfl) (jY.o _ G_.o.1 (Below.ia G_.o.2)) (λhHeld=> ?_)
      change wpAnyH _ _ abP _ _ _ _ _ _
      refine kL (λZ=>uw gb (gb+2) (gb+1) F none none (iX 20) Z) (D.o.below (Below.ia bR)) hHeld ?_;clear hHeld;rintro A jK hHeld;have z:=hI jK;clear jK;refine qA 0 ⟨some 45,.load 107 (.tmp 8),107,eI,#[],none⟩ hHeld ?_;refine qA 1 ⟨some 46,.load 26 (.tmp 4),26,eI,#[],none⟩ hHeld ?_;refine qA 2 ⟨some 47,.move (.tmp 11),113,eI,#[],none⟩ hHeld ?_;refine qA 4 ⟨some 49,.load 107 (.tmp 8),107,eI,#[],none⟩ hHeld ?_;refine qA 5 ⟨some 50,.load 26 (.tmp 5),26,eI,#[],none⟩ hHeld ?_;refine qA 6 ⟨some 51,.move (.tmp 11),113,eI,#[],none⟩ hHeld ?_;refine wpAnyH_ready (rs:=[3,8,9]) (by kernel_rfl) (by simp) ?_;refine AllReadyH.cons (o:=⟨some 48,.call ⟨.value (.func 73),#[.tmp 45,.tmp 46,.tmp 47],#[107,26,113]⟩,3,eI,#[aj 0,aj 1,aj 2],none⟩) rfl (λK hK=> ?_) (AllReadyH.cons (o:=⟨some 12,.alloc 3,0,eI,#[],none⟩) rfl (λK hK=> ?_) (AllReadyH.cons (o:=⟨some 13,.alloc 3,0,eI,#[],none⟩) rfl (λK hK=> ?_) AllReadyH.nil))
      ·skip
       go_simp;refine(Uq.o _ _ _ z.o).mono ?_;rintro e s ⟨rfl,hu,hf⟩;have u:=hI (z.o.call hu hf);clear hu hf hHeld;refine qK hK (jY.o _ u.o.gp u.o.low) λhHeld=> ?_;clear hK K;refine wpAnyH_ready (rs:=[7,8,9]) (by kernel_rfl) (by simp) ?_;refine AllReadyH.cons (o:=⟨some 52,.call ⟨.value (.func 73),#[.tmp 49,.tmp 50,.tmp 51],#[107,26,113]⟩,3,eI,#[aj 4,aj 5,aj 6,ao 3],none⟩) rfl (λK hK=> ?_) (AllReadyH.cons (o:=⟨some 12,.alloc 3,0,eI,#[],none⟩) rfl (λK hK=> ?_) (AllReadyH.cons (o:=⟨some 13,.alloc 3,0,eI,#[],none⟩) rfl (λK hK=> ?_) AllReadyH.nil))
       ·skip
        go_simp;refine(J_.o _ _ _ u.o).mono ?_;rintro e V2 ⟨rfl,hu,hf⟩;have rJ:=hI (u.o.call hu hf);clear hu hf hHeld;refine qK hK (jY.o _ rJ.o.gp rJ.o.low) λhHeld=> ?_;clear hK K;refine wpAnyH_ready (rs:=[8,9]) (by kernel_rfl) (by simp) ?_;refine AllReadyH.cons (o:=⟨some 12,.alloc 3,0,eI,#[],none⟩) rfl (λK hK=> ?_) (AllReadyH.cons (o:=⟨some 13,.alloc 3,0,eI,#[],none⟩) rfl (λK hK=> ?_) AllReadyH.nil)
        ·skip
         go_simp;obtain⟨hq,jK⟩:=rJ.o.tI;obtain⟨qa,tO⟩:=xE V2.heap.size;obtain⟨V3,hV⟩:=xE (V2.alloc (.cells #[.int .i64 0] 3));rw[<-hV,<-tO]at jK;rw[<-hV,<-tO];have lZ:=hI jK;clear jK hq hV tO hHeld;refine qK hK (jY.o _ lZ.o.gp lZ.o.low) λhHeld=> ?_;clear hK K;refine wpAnyH_ready (rs:=[9]) (by kernel_rfl) (by simp) ?_;refine AllReadyH.cons (o:=⟨some 13,.alloc 3,0,eI,#[],none⟩) rfl (λK hK=> ?_) AllReadyH.nil;go_simp;obtain⟨hq,jK⟩:=lZ.o.tJ;obtain⟨qb,nI⟩:=xE V3.heap.size;obtain⟨V4,hV⟩:=xE (V3.alloc (.cells #[.int .i64 0] 3));rw[<-hV,<-nI]at jK;rw[<-hV,<-nI];have oU:=hI jK;clear jK hq hV nI hHeld;exact amh
        ·skip
         go_simp;obtain⟨hq,jK⟩:=rJ.o.tJ;obtain⟨qb,nI⟩:=xE V2.heap.size;obtain⟨V3,hV⟩:=xE (V2.alloc (.cells #[.int .i64 0] 3));rw[<-hV,<-nI]at jK;rw[<-hV,<-nI];have lZ:=hI jK;clear jK hq hV nI hHeld;refine qK hK (jY.o _ lZ.o.gp lZ.o.low) λhHeld=> ?_;clear hK K;refine wpAnyH_ready (rs:=[8]) (by kernel_rfl) (by simp) ?_;refine AllReadyH.cons (o:=⟨some 12,.alloc 3,0,eI,#[],none⟩) rfl (λK hK=> ?_) AllReadyH.nil;go_simp;obtain⟨hq,jK⟩:=lZ.o.tI;obtain⟨qa,tO⟩:=xE V3.heap.size;obtain⟨V4,hV⟩:=xE (V3.alloc (.cells #[.int .i64 0] 3));rw[<-hV,<-tO]at jK;rw[<-hV,<-tO];have oU:=hI jK;clear jK hq hV tO hHeld;exact amh
       ·skip
        go_simp;obtain⟨hq,jK⟩:=u.o.tI;obtain⟨qa,tO⟩:=xE s.heap.size;obtain⟨V2,hV⟩:=xE (s.alloc (.cells #[.int .i64 0] 3));rw[<-hV,<-tO]at jK;rw[<-hV,<-tO];have rJ:=hI jK;clear jK hq hV tO hHeld;exact amj
       ·skip
        go_simp;obtain⟨hq,jK⟩:=u.o.tJ;obtain⟨qb,nI⟩:=xE s.heap.size;obtain⟨V2,hV⟩:=xE (s.alloc (.cells #[.int .i64 0] 3));rw[<-hV,<-nI]at jK;rw[<-hV,<-nI];have rJ:=hI jK;clear jK hq hV nI hHeld;exact amk
      ·skip
       go_simp;obtain⟨hq,jK⟩:=z.o.tI;obtain⟨qa,tO⟩:=xE A.heap.size;obtain⟨s,hV⟩:=xE (A.alloc (.cells #[.int .i64 0] 3));rw[<-hV,<-tO]at jK;rw[<-hV,<-tO];have u:=hI jK;clear jK hq hV tO hHeld;refine qK hK (jY.o _ u.o.gp u.o.low) λhHeld=> ?_;clear hK K;refine wpAnyH_ready (rs:=[3,9]) (by kernel_rfl) (by simp) ?_;refine AllReadyH.cons (o:=⟨some 48,.call ⟨.value (.func 73),#[.tmp 45,.tmp 46,.tmp 47],#[107,26,113]⟩,3,eI,#[aj 0,aj 1,aj 2],none⟩) rfl (λK hK=> ?_) (AllReadyH.cons (o:=⟨some 13,.alloc 3,0,eI,#[],none⟩) rfl (λK hK=> ?_) AllReadyH.nil)
       ·skip
        go_simp;refine(Uq.o _ _ _ u.o).mono ?_;rintro e V2 ⟨rfl,hu,hf⟩;have rJ:=hI (u.o.call hu hf);clear hu hf hHeld;exact amj
       ·skip
        go_simp;obtain⟨hq,jK⟩:=u.o.tJ;obtain⟨qb,nI⟩:=xE s.heap.size;obtain⟨V2,hV⟩:=xE (s.alloc (.cells #[.int .i64 0] 3));rw[<-hV,<-nI]at jK;rw[<-hV,<-nI];have rJ:=hI jK;clear jK hq hV nI hHeld;exact aok
      ·skip
       go_simp;obtain⟨hq,jK⟩:=z.o.tJ;obtain⟨qb,nI⟩:=xE A.heap.size;obtain⟨s,hV⟩:=xE (A.alloc (.cells #[.int .i64 0] 3));rw[<-hV,<-nI]at jK;rw[<-hV,<-nI];have u:=hI jK;clear jK hq hV nI hHeld;refine qK hK (jY.o _ u.o.gp u.o.low) λhHeld=> ?_;clear hK K;refine wpAnyH_ready (rs:=[3,8]) (by kernel_rfl) (by simp) ?_;refine AllReadyH.cons (o:=⟨some 48,.call ⟨.value (.func 73),#[.tmp 45,.tmp 46,.tmp 47],#[107,26,113]⟩,3,eI,#[aj 0,aj 1,aj 2],none⟩) rfl (λK hK=> ?_) (AllReadyH.cons (o:=⟨some 12,.alloc 3,0,eI,#[],none⟩) rfl (λK hK=> ?_) AllReadyH.nil)
       ·skip
        go_simp;refine(Uq.o _ _ _ u.o).mono ?_;rintro e V2 ⟨rfl,hu,hf⟩;have rJ:=hI (u.o.call hu hf);clear hu hf hHeld;exact amk
       ·skip
        go_simp;obtain⟨hq,jK⟩:=u.o.tI;obtain⟨qa,tO⟩:=xE s.heap.size;obtain⟨V2,hV⟩:=xE (s.alloc (.cells #[.int .i64 0] 3));rw[<-hV,<-tO]at jK;rw[<-hV,<-tO];have rJ:=hI jK;clear jK hq hV tO hHeld;exact aok
     rintro qa qb z u;obtain⟨oA,oB,gA,gG,xX,yY⟩:=M.o;obtain⟨T5,Dn,Kk,G,t_,hop,C⟩:=Yr CV.o B_.o oA oB gA gG xX yY;obtain⟨s,XM⟩:=TL T5 Dn Kk G t_ hop C;have HUR:=hI s;have N:Below w.heap.size w z:=yV.o.trans (u.low.mono H.o.1);have Hl:=u.un.lt;have Q:Uc O:=λi hi=>by
      rcases(Dn i hi).1 with h|h|h|h<;>(rw[h];unfold wV;simp)
     have alf:=ale.o;have Mt:=hI (q9 75 #[.pointer (some ⟨gb+1,0,none⟩),.pointer (some ⟨qa,0,none⟩),.pointer (some ⟨qb,0,none⟩)]
      (λW'=>qp gb z W'/\W'.heap[z.heap.size]? =some (.cells #[.bool false] 4 (0,0))/\∃g,oK O X Y=some g/\ki gb (λq=>q=z.heap.size) g W')
      (λW'=>qp gb z W'/\oK O X Y=none) z (λ_ _=>rfl) (by
       rintro V hV;have hb:Below z.heap.size z V:=by rw[hV];exact Below.cA _ _
       have Dz:V.heap[z.heap.size]? =some (.cells #[.bool false] 4 (0,0)):=by rw[hV];exact a_ _ _
       have hu:ki gb (λq=>q=z.heap.size) O V:=by rw[hV];exact(u.un.TD _).z λq hq=>.inr hq
       have l:∀{q:Nat} {o:Obj},z.heap[q]? =some o->V.heap[q]? =some o:=λ{q o} hq=>cY hb hq;refine(PC hu (l u.gp) (l u.a) (l u.b) T5 Q Kk G (by omega)).mono ?_;rintro e W' ⟨hf,A⟩;refine⟨hf.keep _ _ Dz (by exact⟨by decide,by decide⟩),?_⟩;have wU:=(qp.cB hb (bt Hl)).trans hf;cases he:oK O X Y with
       |none=>rw[he]at A;exact .inr ⟨A,wU,rfl⟩
       |some g=>rw[he]at A;exact .inl ⟨A.1,wU,hf.keep _ _ Dz (by exact⟨by decide,by decide⟩),g,rfl,A.2⟩))
     obtain⟨TU,HGD,HSR,HXY,HUS,No,LC⟩:=h_7 u T5 Dn (show _/\_ from⟨Kk,G⟩) XM N Hl;clear oA oB gA gG xX yY T5 Dn Kk G t_ hop C s XM N Hl Q alf u M Uq J_ jY Dr G_ D
     go_wp2_with fail
     refine Mt.o.mono ?_;rintro e s (⟨rfl,W1,⟨hf,Dz,g,he,hu⟩,Q⟩|⟨rfl,W1,⟨hf,he⟩,Q⟩)
     ·obtain⟨gg1,gg2,gg3,_⟩:=FJ HGD.o HSR.o HXY.o.1 HXY.o.2 he;have C:=HUS.o g he;have Dx:=C.trees;have HR:Hd (MN true a b=if(List.range 20).all λi=>decide ((iP g i).size<=20)then .ok (JQ 20 (BF g (List.range 20)))else .px):=hI (by rw[HUR.o];unfold abS;rw[he]);have alg:=(gE TU.o.gp).1;have alh:=(gE TU.o.arr).1;have kgp:=Q.same _ _ (by omega) (hf.keep _ _ TU.o.gp (by exact⟨by decide,by decide⟩));have G:=Q.same _ _ (by omega) (hf.keep _ _ TU.o.arr (by exact⟨by decide,by decide⟩));have u:ki gb (λ_=>False) g s:=(hu.but Q (.inl rfl) ⟨_,Dz,by exact⟨by decide,by decide⟩⟩).z λq hq=>hq.elim;have ajx:Below gb z s:=hf.low.trans (Q.below (bt LC.o) (ai (bt LC.o) hf.size));obtain⟨l0,D,ali,ajy⟩:∃l0:List Value,w_ 20=l0.toArray/\l0.length=20/\∀i,i<20->l0[i]? =some (.int .i64 (i:Nat)):=⟨_,rfl,by simp,λi hi=>by
       have:=vP (k:=20) hi;unfold w_ at this;rw[aF,aq hi]at this;exact this⟩
      rw[D]at G;obtain⟨y,hy⟩:=xE s.heap.size;have TV:=Below.ZO s (.cells #[.pointer (some ⟨gb,0,none⟩),.slice none 0 0,.bool false] 119) (.cells #[.pointer (some ⟨s.heap.size,0,none⟩)] 117) (.map #[] 0) (.cells #[.map (some (s.heap.size+2))] 120);have TW:=mO s (.cells #[.pointer (some ⟨gb,0,none⟩),.slice none 0 0,.bool false] 119) (.cells #[.pointer (some ⟨s.heap.size,0,none⟩)] 117) (.map #[] 0) (.cells #[.map (some (s.heap.size+2))] 120);obtain⟨W17,M⟩:=xE ((((s.alloc (.cells #[.pointer (some ⟨gb,0,none⟩),.slice none 0 0,.bool false] 119)).alloc (.cells #[.pointer (some ⟨s.heap.size,0,none⟩)] 117)).alloc (.map #[] 0)).alloc (.cells #[.map (some (s.heap.size+2))] 120));rw[<-M]at TV TW;have ajz:ki gb (λq=>q=s.heap.size+2) g W17:=by
       rw[M];have h1:=(u.TD (.cells #[.pointer (some ⟨gb,0,none⟩),.slice none 0 0,.bool false] 119)).z (Z':=λ_=>False) λq hq=>hq.elim;have h2:=(h1.TD (.cells #[.pointer (some ⟨s.heap.size,0,none⟩)] 117)).z (Z':=λ_=>False) λq hq=>hq.elim;have h3:=(h2.TD (.map #[] 0)).z (Z':=λq=>q=s.heap.size+2) λq hq=>.inr (by rw[hq];simp);exact h3.below (Below.cA _ _)
      have mF:TM gb y z g 0 W17:=by
       rw[hy];refine⟨ajz,cY TV kgp,TW.1,by rw[D];exact cY TV G,TW.2.1,TW.2.2.2,eu.congr (f:=λ_=>none) ⟨[],⟨#[],0,TW.2.2.1,by simp,by simp,by simp⟩,by simp,λ_=>rfl⟩ (TG g),ajx.trans (TV.mono (bt u.lt)),bt u.lt⟩
      have RG:=hI (mP (cY TV G));have RI:Hd ((Tryz.prog.info? 111).map (·.size)=some l0.length):=hI (by rw[ali];kernel_rfl);have c0:=cZ kgp;have zc:=af c0;obtain⟨N,HUG,NQ,HAT,alj,HY,HL0,alk⟩:=h_8 (show _/\_/\_ from⟨gg1,gg2,gg3⟩) C Dx mF M hy ajy D;clear hf Dz he hu Q gg1 gg2 gg3 C Dx alg alh kgp G u ajx D ajy TV TW ajz mF M hy Mt
      go_upto_region 16 with fail
      rw[<-alj.o,<-HY.o];clear c0 zc
      go_wp2_with (first|(refine wpList_load_mid rfl 111 _ rfl _ _ rfl _ _ RG.o Tryz.underlying111 rfl RI.o ?_))
      rw[show y+1+1+1=y+3 from rfl]
      go_loopw [61] (λi wr=>∃k:Nat,k<=20/\i=.int .i64 k/\TM gb y z g k wr) (λi _=>20-(intOf i).toNat)
      case atStart=>exact⟨0,aw _,rfl,HAT.o⟩
      case round=>
       obtain⟨wo,rfl⟩:∃wo:World,wo=wr:=⟨_,rfl⟩;obtain⟨k,hk,rfl,j⟩:=hrel;by_cases m:k<20
       ·have om:(k:Int)<20:=by omega
        have hix:=λV=>Rp m (HL0.o k m) V;have J:=hI j;have dL:=hI m;have u:Hd (∀V,Below wo.heap.size wo V->aH Tryz.prog 78 #[.pointer (some ⟨gb,0,none⟩),.int .i64 (k:Nat)] V (.int .i64 (find g k:Nat))):=hI λV hV=>by
         obtain⟨r,gv,ps,G,_⟩:=(j.below hV).un.gr;refine(ph G N.o.1.wf (HUG.o.low k (bq.2 m))).mono ?_;rintro e w' ⟨rfl,rfl⟩;exact⟨rfl,bR⟩
        have G:Hd (∀d os,aH Tryz.prog 78 #[.pointer (some ⟨gb,0,none⟩),.int .i64 (k:Nat)] (Go.Sort.grow (redrawn wo d) os) (.int .i64 (find g k:Nat))):=hI λd os=>u.o _ (below_regrown wo d os);have c0:=cZ j.gp;have c1:=cZ j.bm;have z0:=af c0;have M:=af c1;cases hm:xd g k (find g k)with
        |some i=>
         have qE:=j.map.Me (k:=((find g k:Nat):Int)) (v:=.int .i64 ((i:Nat):Int)) (by unfold yR;rw[aq (by omega),bw,hm];rfl);have HM:=hI hm;obtain⟨fk,J8⟩:=xE (find g k);rw[<-J8]at qE G;clear j hm m J8
         go_wp2_with fail
         refine aM (by kernel_rfl) (by kernel_rfl) ?_
         repeat go_big_quiet_step ((with_reducible exact aH.quiet (G.o _ _)))
         refine wpQuiet_nil ?_;intro V D;have HV:=hI ((J.o.stay HM.o).below D);clear D qE c0 c1 z0 M;go_wp2
         go_roundw
         case rel=>exact⟨k+1,dL.o,by go_num,HV.o⟩
         case measure=>have:=dL.o;simp[intOf];omega
        |none=>
         have qE:=j.map.Mf (k:=((find g k:Nat):Int)) (by unfold yR;rw[aq (by omega),bw,hm];rfl);have HM:=hI (TH hm);obtain⟨fk,J8⟩:=xE (find g k);rw[<-J8]at qE G u HM;clear j hm m J8
         go_wp2_with fail
         refine aM (by kernel_rfl) (by kernel_rfl) ?_
         repeat go_big_quiet_step ((with_reducible exact aH.quiet (G.o _ _)))
         refine wpQuiet_nil ?_;intro V D;have hv:=J.o.below D;have HV:=hI hv;have Qh:Hd (∀d os,aH Tryz.prog 78 #[.pointer (some ⟨gb,0,none⟩),.int .i64 (k:Nat)] (Go.Sort.grow (redrawn V d) os) (.int .i64 (fk:Nat))):=hI λd os=>u.o _ (ag D (below_regrown V d os) lR);clear D qE c0 c1 z0 M;have c0:=cZ hv.gp;have c1:=cZ hv.bm;have z0:=af c0;have M:=af c1;clear hv
         go_wp2_with fail
         refine gw 5 (by kernel_rfl) (by kernel_rfl) ?_;simp only[List.take_succ_cons,List.take_zero,List.drop_succ_cons,List.drop_zero]
         repeat go_big_quiet_step ((with_reducible exact aH.quiet (Qh.o _ _)))
         refine wpQuiet_nil ?_;intro U FX;have Tq:=HV.o.below FX;obtain⟨o,eo,l6,_⟩:=run_set (T:=120) (et:=3) (P:=Tryz.prog) Tryz.underlying120 gU Tq.map ((fk:Nat):Int) (.int .i64 ((k:Nat):Int));unfold eT at eo;have ZC:=hI (Tq.set o (l6.congr HM.o));clear FX Tq l6 c0 c1 z0 M;go_wp2
         go_roundw
         case rel=>exact⟨k+1,dL.o,by go_num,ZC.o⟩
         case measure=>have:=dL.o;simp[intOf];omega
       ·obtain rfl:k=20:=by omega
        clear hk m;obtain⟨r,gv,ps,D⟩:=j.start;have RG2:=hI (mP (show wo.heap[gb+2]? =some (.cells l0.toArray 111 (0,0))by rw[<-alk.o];exact j.arr));have fG:=hI D;have G:∀i,i<g.length->((aX g i).sort=0\/(aX g i).sort=2\/(aX g i).sort=3\/(aX g i).sort=4)/\(aX g i).parts.length<=1000000:=λi hi=>⟨(N.o.2.2 i hi).1,by have:=(N.o.2.2 i hi).2;omega⟩;have alm:=hI G;have u:∀args w,(callFunc 81 args).run Tryz.prog w=.ok (.enter 81 args) w:=enters_of Tryz.func81 (by kernel_rfl) rfl;have HMF:=hI u;obtain⟨i0,hi,zW,sZ,xw⟩:=info_parts Tryz.Yx;clear j D G u
        go_wp2_with (first|(refine wpList_load_mid rfl 111 _ rfl _ _ rfl _ _ RG2.o Tryz.underlying111 rfl RI.o ?_))
        go_loopw [20,82] (λG i wr=>∃(k:Nat) (vs:List Int) (rv:Option Nat) (vv:Value) (bs:List Bd) (pb:List Value),k<=20/\i=.int .i64 k/\Ro gb y z g r gv ps vs rv vv false G bs pb wr/\bs=(JQ k (BF g (List.range 20))).map Rq/\bs.length<=k/\vs.length<=20*k/\∀i,i<k->(iP g i).size<=20) (λ_ i _=>20-(intOf i).toNat)
        case atStart=>exact⟨0,[],none,_,[],[],aw _,rfl,fG.o,rfl,lR,aw _,λi hi=>ay hi (ax _)⟩
        case round=>
         obtain⟨wx,rfl⟩:∃wx:World,wx=wr:=⟨_,rfl⟩;obtain⟨k,vs,rv,vv,bs,pb,hk,rfl,D,oG,Om,Es,bW⟩:=hrel;obtain⟨va,vc,rfl⟩:=cr D.own.own;by_cases m:k<20
         ·have om:(k:Int)<20:=by omega
          have hix:=λV=>Rp m (HL0.o k m) V;obtain⟨Uf,dL,CI,YB,Vh,dK,Zf⟩:=h_7 D m oG Om Es bW (LL N.o.1 alm.o NQ.o k wx vs rv vv false (HUG.o.low k (bq.2 m)) D.gr D.sc D.sep (by omega));have c1:=cZ D.bx;have M:=af c1;clear D oG Om Es bW m;obtain⟨LB,G⟩:=xE bs.length;have HLB:=hI G;rw[<-G];clear G
          go_wp2_with fail
          refine Zf.o.mono ?_;rintro e w3 ⟨T,kv,gT,o_,qN,yz,rC,rfl,mJ,y7,Qq,vZ,pG,A⟩;have h3:=Uf.o.read y7 Qq vZ pG;have G:o_.length<=20*(k+1):=by have:=A.many;have:=Vh.o;omega
          have Kg:T.size<=100000000:=by have h1:=A.size;have h2:=A.ahE (by omega);omega
          obtain⟨T',Ot⟩:∃T':Nd,T'=T.Cc (JX g o_):=⟨_,rfl⟩;have TS:Calls Tryz.prog 79 #[.agg #[.int .i64 T.a,.int .i64 T.n,kv],.func (.func 81) #[] #[.pointer (some ⟨y+3,0,none⟩),.pointer (some ⟨y+1,0,none⟩)]] w3 λe w'=>∃Nk,e=.returned (.agg #[.int .i64 T'.a,.int .i64 T'.n,Nk])/\iJ (nO 26 w3.heap.size) w' Nk T'.k/\Below w3.heap.size w3 w':=by
           rw[Ot];exact vr (gf:=81) (caps:= #[.pointer (some ⟨y+3,0,none⟩),.pointer (some ⟨y+1,0,none⟩)]) (φ:=JX g o_) (P:=λx=>0<=x/\x<(o_.length:Nat)) (W0:=w3) HMF.o
            (λn W hn hV=>PG (h3.below hV) n hn (by omega)) T.size T (.agg #[.int .i64 T.a,.int .i64 T.n,kv]) w3 w3.heap.size lR ⟨kv,rfl,mJ.at_ λb o hb _=>(gE hb).1⟩ lR A.vars.1 A.vars.2.1 bR Kg
          have iE:rC=false->(iP g k).size<=20/\T'=BF g (List.range 20) k:=λhf=>by
           by_cases gP:((iP g k).size:Int)<=20
           ·obtain⟨f1,_,f3,_⟩:=A.fit gP;refine⟨by omega,?_⟩;rw[Ot,f1,f3];exact abR HUG.o dL.o vs
           ·have:=A.cut gP;rw[hf]at this;cases this
          have u:rC=true->¬(iP g k).size<=20:=λht gP=>by
           obtain⟨_,_,_,f4⟩:=A.fit (by omega);rw[f4]at ht;cases ht
          obtain⟨YA,H3,agt,YC,nR⟩:=h_5 TS h3 iE u G;clear mJ y7 Qq vZ pG A h3 Kg Ot TS iE u G c1 M Zf
          go_wp2_with fail
          refine YA.o.mono ?_;rintro e w5 ⟨Nk,rfl,uA,fQ⟩;obtain⟨sk,Ad,rfl⟩:=uA.slice;obtain⟨W6,hW6,gS,G⟩:=CD w5 (.cells #[.int .i64 T'.a,.int .i64 T'.n,.slice sk T'.k.len Ad] 26);have u:=(H3.o.below fQ).below gS;have c1:w5.cell? ⟨y+1,0,none⟩=some (.pointer (some ⟨y,0,none⟩)):=by rw[cell_of_row _ _ _ _ _ _ (H3.o.below fQ).bx];rfl
          have M:=af c1;obtain⟨HW6,H6,rQ⟩:=h_3 hW6 u G;have Sz:Hd (iJ (nO 26 gb) W6 (.slice sk T'.k.len Ad) T'.k):=hI ((uA.keep (gN.below gS)).mono λb o _ hS=>⟨by have:=hS.1;have:=H3.o.lt;omega,hS.2⟩);clear uA fQ gS G hW6 u YA
          go_upto_region 28 with fail
          rw[<-HW6.o];obtain⟨qx,hqx⟩:=xE w5.heap.size;rw[<-hqx]at rQ |-;clear c1 M HW6 hqx;have u:=H6.o;have G:=rQ.o;have c1:=cZ u.bx;have c2:=fu u.sc.fW;have b0:=cZ G;have b1:=eY G;have b2:=fu G;have M:=af c1;have z2:=af c2;have zb:=af b0;have aln:Hd (Below w.heap.size w W6):=hI (No.o.trans (u.low.mono H.o.1));clear u G;cases rC with
          |true=>
           have G:Hd (¬((List.range 20).all λi=>decide ((iP g i).size<=20))=true):=hI λh=>YC.o rfl (bu (aK.1 h k (bq.2 dL.o)));clear agt YC;go_wp2
           go_ret2
           rw[HR.o,ah G.o];exact⟨aln.o,rfl⟩
          |false=>
           obtain⟨gP,G⟩:=agt.o rfl;have Yp:Hd (∀i,i<k+1->(iP g i).size<=20):=hI λi hi=>by
            by_cases e:i=k
            ·rw[e];exact gP
            ·exact dK.o i (by omega)
           have HSU:Hd ((JQ (k+1) (BF g (List.range 20))).map Rq=bs++if T'.a=1/\T'.n=(k:Int)then[]else[⟨(k:Nat),T'⟩]):=hI (by
            rw[TK,bA,<-CI.o,<-G]
            congr 1
            split<;>rfl)
           clear gP G agt YC;by_cases I:T'.a=1
           ·have e1:(T'.a != 1)=false:=by rw[I];rfl
            by_cases hn:T'.n=(k:Int)
            ·have e2:(T'.n != (k:Int))=false:=by rw[hn];simp
             have ye:=hI (show _/\_ from⟨I,hn⟩);clear I hn;go_wp2
             go_roundw
             case rel=>exact⟨k+1,o_,qN,yz,bs,pb,dL.o,by go_num,by rw[HLB.o];exact H6.o,by rw[HSU.o,aq ye.o,bk],Nat.le_succ_of_le YB.o,nR.o,Yp.o⟩
             case measure=>have:=dL.o;simp[intOf];omega
            ·have e2:(T'.n != (k:Int))=true:=by simpa using hn
             have ye:Hd (¬(T'.a=1/\T'.n=(k:Int))):=hI λh=>hn h.2;clear I hn;exact amx
           ·have e1:(T'.a != 1)=true:=by simpa using I
            have ye:Hd (¬(T'.a=1/\T'.n=(k:Int))):=hI λh=>I h.1;clear I;exact amx
         ·obtain rfl:k=20:=by omega
          have G:Hd (MN true a b=.ok (JQ 20 (BF g (List.range 20)))):=hI (by rw[HR.o,aq (aK.2 λi hi=>aI (bW i (bq.1 hi)))]);obtain⟨u,kG,CI⟩:=h_3 (D.own.at_ (by omega)) (No.o.trans (D.low.mono H.o.1)) oG;clear D oG Om Es bW hk m;go_wp2
          go_ret2
          rw[G.o];refine⟨kG.o,_,rfl,?_⟩;rw[<-CI.o];exact u.o
     ·have HR:Hd (MN true a b=.rp):=hI (by rw[HUR.o];unfold abS;rw[he]);have G:Hd (Below w.heap.size w s):=hI (No.o.trans ((hf.low.trans (Q.below (bt LC.o) (ai (bt LC.o) hf.size))).mono H.o.1));clear hf he Q;go_wp2
      go_ret2
      rw[HR.o];exact⟨G.o,rfl⟩
theorem jM.prog{dv cv fv rv:Value}{m:Md}(h:jM w B (.agg #[dv,cv,fv,rv]) m):ku w B (.agg #[cv,fv]) m.prog.sig:=by
 obtain⟨_,a,b,_⟩:=h.parts;exact⟨_,_,rfl,a,b⟩
theorem TX(m:Md)(t:Nd)(mv tv:Value)(w:World)(B:Nat)(hm:jM w B mv m)(ht:cV w B tv t)(hB:B<=w.heap.size)(hz:∀r∈m.prog.rules,nh r)(MK:m.bH.length<=8)(E:t.size<=100000)(T:iy m=true)(Ue:fA m.prog.sig=true)(U:dq m.prog.sig t=true){types:List Nd}(hR:vC true m=.ok types){S0:Ck}{n0:Nat}(W:vO true (kn m types []) (cC t) t=some (S0,n0))(hL:Fi m=true)(hl:t.one.low=true):
 Calls Tryz.prog 102 #[mv,tv] w λe w'=>Below w.heap.size w w'/\ajf w t (some (S0,n0)) e w':=by
 have HM:=hI hm;obtain⟨dv,cv,fv,rv,rfl,P,hc,hf,Q⟩:=hm;obtain⟨da,dc,rfl⟩:=P.slice;obtain⟨ca,cc,rfl⟩:=hc.slice;obtain⟨fa,fc,rfl⟩:=hf.slice;obtain⟨ra,rc,rfl⟩:=Q.slice;obtain⟨sv,rfl,A⟩:=ht;obtain⟨ka,kc,rfl⟩:=A.slice;obtain⟨MC,G⟩:∃MC:Array Value,MC= #[.slice da m.bH.length dc,.slice ca m.prog.sig.cons.length cc,.slice fa m.prog.sig.bj.length fc,.slice ra m.prog.rules.length rc]:=⟨_,rfl⟩;obtain⟨TC,d⟩:∃TC:Array Value,TC= #[.int .i64 t.a,.int .i64 t.n,.slice ka t.k.len kc]:=⟨_,rfl⟩;obtain⟨W2,N,O,g⟩:=UP w (.cells MC 50) (.cells TC 54);have Y:Hd (∀V,Below w.heap.size w V->jM V w.heap.size (.agg #[.slice da m.bH.length dc,.slice ca m.prog.sig.cons.length cc,.slice fa m.prog.sig.bj.length fc,.slice ra m.prog.rules.length rc]) m):=hI λV a=>(HM.o.mono hB).below a lR;have F:Hd (∀V,Below w.heap.size w V->cV V w.heap.size (.agg #[.int .i64 t.a,.int .i64 t.n,.slice ka t.k.len kc]) t):=hI λV a=>⟨_,rfl,(A.mono hB).below a lR⟩;have fw:=hI (lH m _ W2 w.heap.size (Y.o W2 O) O.size hz MK);have iK:Hd (∀V,Below w.heap.size w V->aH Tryz.prog 159 #[.agg #[.slice ca m.prog.sig.cons.length cc,.slice fa m.prog.sig.bj.length fc],.agg #[.int .i64 t.a,.int .i64 t.n,.slice ka t.k.len kc]] V (.int .i64 (if fA m.prog.sig&&dq m.prog.sig t then 0 else 2))):=hI λV a=>E4 m.prog.sig t _ _ V w.heap.size (Y.o V a).prog (F.o V a) a.size (by omega);have cR:=hI O;have lG:=hI g;have Dr:Hd (∀V,Below W2.heap.size W2 V->V.heap[w.heap.size]? =some (.cells MC 50 (0,0))/\V.heap[w.heap.size+1]? =some (.cells TC 54 (0,0))):=hI λV a=>⟨cY a g.1,cY a g.2⟩;unfold aH at fw iK;have HI:Hd (∀V,Below w.heap.size w V->Calls Tryz.prog 121 #[_] V (afx V (.ok types))):=hI λV a=>by rw[<-hR];exact AA T hL _ V w.heap.size (Y.o V a) a.size
 have HEX:Hd ((∀j,j<types.length->(types[j]?.getD default).ok/\(types[j]?.getD default).QS)->∀X:CX,X.m=m->X.types=types->X.l=[]->_):=hI λhk X R I J=>afX T U hR hk hl R I J E;have Vh:Hd (∀x∈cC t,0<=x/\x<20):=hI (MR (kD U));have HZ:=hI E;have uX:Hd ((kW m).length<=1000):=hI (BD T);rw[T]at fw;rw[Ue,U]at iK;simp only[Bool.and_self,if_true]at iK;obtain⟨Ze,S_,s⟩:=h_3 Ue U W;have D:=g.1;rw[G]at D;have x0:=cZ D;have x1:=eY D;have p:=fu D;have C:=xk D;have u:=af x0;have y:=hI G;have HTC:=hI d;rw[G,d]at N;clear D P hc hf Q A hB hz MK E O g hR T Ue U W G d;simp only[if_true]at fw
 go_enter Tryz.func102,Tryz.ntmps102
 go_upto_region 1 with fail
 rw[<-N];clear N
 go_wp2_with fail
 refine fw.o.mono ?_;rintro e w3 ⟨rfl,O⟩;clear x0 x1 p C u;obtain⟨G,d⟩:=Dr.o w3 O;rw[y.o]at G;have x0:=cZ G;have x1:=eY G;have p:=fu G;have C:=xk G;rw[HTC.o]at d;have N:=cZ d;have y1:=eY d;have y2:=fu d;have u:=af x0;have zy:=af N;have g:=ag cR.o O lR;obtain⟨AK,fT,EO⟩:=h_3 (iK.o w3 g) O g;clear O g G d
 go_wp2_with fail
 refine AK.o.mono ?_;rintro e w4 ⟨rfl,O⟩;clear x0 x1 p C u N y1 y2 zy;have g:=ag fT.o O lR;obtain⟨G,d⟩:=Dr.o w4 g;rw[y.o]at G;have x0:=cZ G;have x1:=eY G;have p:=fu G;have C:=xk G;have u:=af x0;have A:=ag EO.o O lR;obtain⟨HCI,alo,CU⟩:=h_3 (HI.o w4 A) g A;clear O g A G d
 go_wp2_with fail
 refine HCI.o.mono ?_;rintro e z ⟨H,tyv,rfl,O,P⟩;have wS:=hI P;clear P;clear x0 x1 p C u;have A:=ag alo.o H lR;obtain⟨G,d⟩:=Dr.o z A;rw[y.o]at G;have x0:=cZ G;have x1:=eY G;have p:=fu G;have C:=xk G;have u:=af x0;obtain⟨ya,yc,rfl⟩:=O.slice;have g:=ag CU.o H lR;obtain⟨WU,ajC,Lh⟩:=h_3 (tw (l:=[]) ((Y.o z g).mono g.size) O lR uX.o) A g;clear H A g G d O
 go_wp2_with fail
 refine WU.o.mono ?_;rintro e w6 ⟨X,rfl,iB,O,Mi,Ur,hle,g,yX⟩;clear x0 x1 p C u;obtain⟨hX,J,L,M,P,Q⟩:=HEX.o wS.o X Mi Ur hle;obtain⟨vl,Es⟩:∃vl:List Nat,vl=(cC t).map Int.toNat:=⟨_,rfl⟩;have A:cX vl=cC t:=by rw[Es];exact abA λx D=>(Vh.o x D).1
 have YD:vl.length<=100000:=by rw[Es,aW];have:=iL t;have:=HZ.o;omega
 have Ce:(cX vl).Nodup:=by rw[A];exact List.Pairwise.imp (λh e=>by omega) (lC t).1
 obtain⟨RX,R⟩:=xE (vO true (kn m types []) (cC t) t);have Lf:=ag Lh.o yX lR;have ajD:=ag ajC.o yX lR;obtain⟨W7,hW7,iq,Ct⟩:=CD w6 (.cells #[.pointer (some ⟨X.cx,0,none⟩)] 147);have C:=ag Lf iq lR;obtain⟨G,d⟩:=Dr.o W7 (ag ajD iq lR);rw[y.o]at G;have x1:=eY G;have p:=fu G;have u:=af x1;rw[HTC.o]at d;have N:=cZ d;have y1:=eY d;have y2:=fu d;have zy:=af N;have I:=Bx m.prog.sig t _ _ W7 w.heap.size (Y.o W7 C).prog (F.o W7 C) C.size (by have:=HZ.o;omega);have eL:tV m.prog.sig t=cX vl:=by unfold tV;rw[Ze.o,S_.o,A];rfl
 have eE:vu m.prog.sig t=0:=by unfold vu;rw[Ze.o,S_.o];rfl
 rw[eL,eE,eP]at I;obtain⟨HVA,H7,HN7,XA,HW7,HX,HTr,HCe,HOk,HSr,HRm,ER⟩:=h_12 I (g.below iq) Ct d hW7 hX J L M P Q A;obtain⟨YE,HND,ZD⟩:=h_3 YD Ce R;have ajE:Hd (w.heap.size<=X.base/\w.heap.size+1<X.base):=hI (by rw[iB];have h1:=ajC.o.size;have h2:=lG.o.2;have h3:=(gE h2).1;omega);have P_:Hd (X.B=z.heap.size/\X.base=z.heap.size):=hI ⟨O,iB⟩;have HT5:Hd (∀V,Below z.heap.size z V->dr V z.heap.size (.slice ka t.k.len kc) t.k):=hI λV a=>by
  obtain⟨_,e,h⟩:=F.o V (ag Lh.o a lR);cases e;exact h.mono Lh.o.size
 have alp:=hI (ag yX iq lR);clear g yX iB O Mi Ur hle hX J L M P Q Es A YD Ce R Lf ajD iq Ct C G d I eL eE hW7
 go_upto_region 7 with fail
 rw[<-HW7.o]
 go_wp2_with fail
 refine HVA.o.mono ?_;rintro e I ⟨lv,rfl,P,R⟩;clear x1 p u N y1 y2 zy;obtain⟨J,L,rfl⟩:=cr P;have M:dw I (.slice J vl.length L) vl:=dw.pF P (by have:=YE.o;omega);obtain⟨Q,C⟩:=qS I (.cells #[.slice J vl.length L] 74);have O:=ag R Q lR;have A:yQ X t ka kc (.slice J vl.length L) w6.heap.size (w.heap.size+1) I.heap.size (I.alloc (.cells #[.slice J vl.length L] 74)):=⟨cY O HN7.o,cY O XA.o,C⟩;obtain⟨H9,Kc,HIT,ajF⟩:=h_4 (H7.o.below O) A (M.keep (w':=I.alloc (.cells #[.slice J vl.length L] 74)) λb cur f d=>cY Q d) (ag alp.o O lR);obtain⟨W9,G⟩:=xE (I.alloc (.cells #[.slice J vl.length L] 74));rw[<-G]at H9 Kc HIT ajF;have HW9:=hI G;clear P R M Q C O A G
 go_upto_region 8 with fail
 rw[<-HW9.o];have v0:=cZ Kc.o.v;have O:=af v0;have YD:=YE.o;go_wp2;clear v0 O
 go_loopw [50] (λi wr=>∃k:Nat,k<=vl.length/\i=.int .i64 k/\dm X (λ_=>False) wr (je (cX (vl.take k)) gX) 0/\X.Kp W9 wr) (λi _=>vl.length-(intOf i).toNat)
 case atStart=>exact⟨0,aw _,rfl,by rw[List.take_zero];exact H9.o,iC.refl _⟩
 case round=>
  obtain⟨k,hk,rfl,g,P⟩:=hrel;have A:=Kc.o.keep H9.o P;have M:=HIT.o.keep (H9.o.qU P);by_cases bO:k<vl.length
  ·obtain⟨v,WA⟩:=xE (vl[k]);obtain⟨S,C⟩:=xE (je (cX (vl.take k)) gX);have u:cX (vl.take (k+1))=cX (vl.take k)++[((v:Nat):Int)]:=by rw[aV bO,kO,WA]
   have R:look S.env (v:Nat)=none:=by
    cases e:look S.env (v:Nat)with
    |none=>rfl
    |some q=>
     rw[C]at e;rcases IC _ e with⟨G,h⟩|h
     ·cases h
     ·exfalso;have Ce:=HND.o;have O:cX vl=cX (vl.take (k+1))++cX (vl.drop (k+1)):=by
       unfold cX;rw[<-bA,List.take_append_drop]
      rw[O,u]at Ce;have:=(List.nodup_append.1 (List.nodup_append.1 Ce).1).2.2 _ h _ (aJ.2 rfl);exact this rfl
   have O:je (cX (vl.take (k+1))) gX={ (bP S).1 with env:=((v:Nat),S.g.length)::S.env}:=by rw[u,FG,<-C,Ig R]
   have k_:S.g.length<=100000:=by
    rw[C];have h1:=TE (cX (vl.take k)) (S:=gX) λn G=>by obtain⟨x,_,rfl⟩:=ni G;omega
    rw[eP,List.length_take]at h1;have:gX.g.length=0:=rfl;omega
   rw[<-C]at g;have Q:=M.ints;unfold Ints at Q;rw[eP]at Q;obtain⟨_,a',oh,he,_,_,Np⟩:=Q;obtain⟨nb,no,NA,qM,bX⟩:=Np (by omega);cases he;subst NA;have d0:wr.cell? ⟨nb,no+k,none⟩=some (.int .i64 (v:Nat)):=by
    exact an5
   have om:(k:Int)<(vl.length:Int):=by omega
   have c0:=cZ A.c;have zc:=af c0;have g0:=g.c0;have e7:=g.c7;obtain⟨N,xD,p,dL,rQ,AN⟩:=h_6 g P A bO O k_;clear g P A M WA C u R O k_ Np bX bO
   go_wp2_with fail
   refine ff (S:=λV=>V.cell? ⟨w6.heap.size,0,none⟩=some (.pointer (some ⟨X.cx,0,none⟩))/\V.cell? ⟨X.cx,7,none⟩=some (.map (some X.eb))/\V.cell? ⟨X.cx,0,none⟩=some (.pointer (some ⟨X.gx,0,none⟩))) 10 (by kernel_rfl) (by decide) (⟨c0,e7,g0⟩) (λhHeld=> ?_)
   change mI _ _ Rj _ _ _ _ _ _ _ _
   refine oD (λZ=>Below wr.heap.size wr Z) (Below.ia bR) hHeld ?_;clear hHeld;rintro V u hHeld;refine qH 0 ⟨some 54,.load 147 (.tmp 10),147,ej,#[],none⟩ hHeld ?_;refine qH 1 ⟨some 55,.nilCheck (.tmp 54),0,ej,#[aj 0],none⟩ hHeld ?_;refine qH 2 ⟨some 56,.fieldAddr 152 (.tmp 55) 4,0,ej,#[aj 1],none⟩ hHeld ?_;refine qH 3 ⟨some 57,.load 120 (.tmp 56),120,ej,#[aj 2],none⟩ hHeld ?_;refine qH 4 ⟨some 58,.move (.tmp 14),3,ej,#[],none⟩ hHeld ?_;refine qH 5 ⟨some 59,.load 147 (.tmp 10),147,ej,#[],none⟩ hHeld ?_;refine qH 6 ⟨some 60,.nilCheck (.tmp 59),0,ej,#[aj 5],none⟩ hHeld ?_;refine qH 7 ⟨some 61,.fieldAddr 152 (.tmp 60) 0,0,ej,#[aj 6],none⟩ hHeld ?_;refine qH 8 ⟨some 62,.load 107 (.tmp 61),107,ej,#[aj 7],none⟩ hHeld ?_;obtain⟨HB,B_,Qh⟩:=h_3 (N.o.below u) (xD.o.trans (dm.kp X u)) (p.o.below u);have R:=hI (r7 HB.o (by have:=AN.o;omega));clear u c0 g0 e7 zc d0;refine qO 9 ⟨some 63,.call ⟨.value (.func 71),#[.tmp 62],#[107]⟩,3,ej,#[aj 8],none⟩ λK hK=> ?_;go_simp;refine R.o.mono ?_;rintro e FH ⟨C,rfl,G⟩;have O:=Qh.o.keep HB.o C;have c0:=cZ O.c;obtain⟨HHE,abV,H10⟩:=h_3 (show _/\_/\_ from⟨c0,G.c7,G.c0⟩) (B_.o.trans C) G;clear C G O c0 hHeld;refine qK hK (HHE.o) λhHeld=> ?_;clear hK K;refine jQ (by kernel_rfl) ?_
   change wpList _ Rj _ [⟨none,.mapUpdate 120 (.tmp 57) (.tmp 58) (.tmp 63),0,ej,#[aj 3,aj 4,aj 9,ao 9,al 0,al 1,al 2,al 3,al 4,al 5,al 6,al 7,al 8,al 9],none⟩] _ _
   clear hHeld;obtain⟨r5,u,ps5,uv5,up5,O⟩:=H10.o;obtain⟨o,eo,C,G⟩:=O.Xn (Int.natCast_nonneg v) S.g.length;have Fk:=hI (abV.o.trans G);have H6:Hd (dm X (λ_=>False) _ _ _):=hI ⟨_,_,_,_,_,C⟩;clear O C G;go_wp2
   go_roundw
   case rel=>exact⟨k+1,dL.o,by go_num,by rw[rQ.o];exact H6.o,Fk.o⟩
   case measure=>have:=dL.o;simp[intOf];omega
  ·obtain rfl:k=vl.length:=by omega
   rw[bE,ER.o]at g;obtain⟨u,N⟩:=qS wr (.cells #[.slice none 0 0] 74);have alq:=(gE A.v).1;obtain⟨G,O⟩:=xE (wr.alloc (.cells #[.slice none 0 0] 74));rw[<-O]at u N;have Gl:Below z.heap.size z wr:=ajF.o.trans (H9.o.low P (by rw[P_.o.2];exact lR));have H:=ag Gl u lR;have adl:=g.below u;have adm:=A.below u;have adn:dw G (.slice J vl.length L) vl:=M.keep λb cur f d=>cY u d;have Om:X.base<=wr.heap.size:=by have:=g.lt.2.2;exact this
   have YG:X.base<=G.heap.size:=ai Om u.size;have Mt:=hI (q9 161 #[.pointer (some ⟨w6.heap.size,0,none⟩),.pointer (some ⟨w.heap.size+1,0,none⟩),.pointer (some ⟨wr.heap.size,0,none⟩),.pointer (some ⟨I.heap.size,0,none⟩)]
    (λW'=>Below X.base G W'/\W'.heap[G.heap.size]? =some (.cells #[.bool false] 4 (0,0))/\∃S n,RX=some (S,n)/\iA X S/\S.g.length<=900000000/\S.us.length<=900000000/\jq kF S.g/\(∀k∈n::vl.map λv=>ur S (v:Nat),k<S.g.length)/\W'.heap[w6.heap.size]? =some (.cells #[.pointer (some ⟨X.cx,0,none⟩)] 147 (0,0))/\∃c nv,W'.heap[wr.heap.size]? =some (.cells #[nv] 74 (0,0))/\dw W' nv (n::vl.map λv=>ur S (v:Nat))/\dm X (λ_=>False) W' S c)
    (λW'=>Below X.base G W'/\RX=none) G (λ_ _=>rfl) (by
     rintro V a;have p:Below G.heap.size G V:=by rw[a];exact Below.cA _ _
     have C:V.heap[G.heap.size]? =some (.cells #[.bool false] 4 (0,0)):=by rw[a];exact a_ _ _
     have hf:=TB HX.o HTr.o (vl:=vl) (by have:=YE.o;omega) (S0:=je (cC t) gX) (by rw[ER.o]) HOk.o HSr.o HRm.o (adl.below p) (adm.below p) (cY p N) (by omega) (by rw[P_.o.1];exact HT5.o V (ag H p lR)) (adn.keep λb cur f d=>cY p d) Om (by rw[HCe.o,ER.o];exact s.o);refine hf.mono ?_;rintro e W' ⟨R,ado,ef⟩;exact⟨ado _ _ C,.inl ⟨ef.1,(p.mono YG).trans R,ado _ _ C,S0,n0,ZD.o.trans s.o,ef.2⟩⟩))
   obtain⟨alr,jP,YB⟩:=h_3 O H YG;clear g P A M u N alq O Gl H adl adm adn Om YG
   go_upto_region 14 with fail
   rw[<-alr.o]
   go_wp2_with fail
   refine Mt.o.mono ?_;rintro e YH (⟨rfl,W1,⟨R,C,S,n,hRS,p_,k_,hul,Gu,Ii,u,c,nv,X1,Q,g⟩,N⟩|⟨rfl,W1,⟨R,XN⟩,N⟩)
   ·have ajH:=N.same _ _ (λe=>by rw[e,C]at u;cases u) u;have Yd:=N.same _ _ (λe=>by rw[e,C]at X1;cases X1) X1;have ajI:X.B<=G.heap.size:=by rw[P_.o.1,<-P_.o.2];exact YB.o
    obtain⟨r1,Q2,LA,uv1,up1,Cz⟩:=g;have A1:=Cz.but C N ajI;have O:=Q.keep (w':=YH) λb cur f d=>N.same _ _ (λe=>by rw[e,C]at d;cases d) d;have ajJ:Below w.heap.size w YH:=Lh.o.trans ((jP.o.trans ((R.trans (N.below YB.o (ai YB.o R.size))).mono (by rw[P_.o.2];exact lR))).mono Lh.o.size);have c0:=cZ ajH;have u0:=cZ Yd;have zc:=af c0;have zu:=af u0;have HF:Hd (∀w',Below YH.heap.size YH w'->(λe w'=>Below w.heap.size w w'/\ajf w t (some (S0,n0)) e w') (.returned (.tuple #[.pointer (some ⟨X.cx,0,none⟩),nv,.int .i64 0])) w'):=hI λw' p=>by
     rw[<-s.o,<-ZD.o,hRS];refine⟨ag ajJ p lR,X,c,nv,rfl,ajE.o.1,⟨_,_,_,_,_,A1.below p⟩,p_,k_,hul,Gu,?_⟩;have hvm:(vl.map λv=>ur S (v:Nat))=(cC t).map (ur S):=by
      rw[<-ER.o];unfold cX;rw[List.map_map];rfl
     rw[hvm]at Ii O;refine⟨Ii,?_⟩;have:=O.keep (w':=w') λb cur f d=>cY p d;exact this
    clear R C hRS p_ k_ hul Gu Ii u X1 Q N ajH Yd ajI Cz A1 O ajJ
    go_wp2_with fail
    refine aM (by kernel_rfl) (by kernel_rfl) ?_
    repeat go_big_quiet_step (fail)
    refine wpQuiet_nil ?_;intro si O;have yq:=hI (HF.o si O);clear O;go_wp2
    go_ret3
    exact yq.o
   ·have h:=XN.symm.trans (ZD.o.trans s.o);cases h
def YI(w':World)(r:PY (List Nd))(e:Ending):Prop:=match r with
 | .rp=>e=.returned (.tuple #[.agg #[.int .i64 0,.int .i64 0,.slice none 0 0],.slice none 0 0,.int .i64 7])
 | .px=>e=.returned (.tuple #[.agg #[.int .i64 0,.int .i64 0,.slice none 0 0],.slice none 0 0,.int .i64 3])
 | .ok ts=>∃tv lv,e=.returned (.tuple #[tv,lv,.int .i64 0])/\cV w' w'.heap.size tv ((Fo.of ts).at 0)/\dr w' w'.heap.size lv ((Fo.of ts).drop 1)
theorem ab2{d:Option Addr}{c:Nat}{a n:Int}{k r:Fo}(h:dr w B (.slice d (r.len+1) c) (.cons a n k r)):dr w B (.slice (if c=1 then d else d.map (·.add (1*3))) (r.len+1-1) (c-1)) r:=by
 obtain⟨g,⟨j,v,cap,e,l,m,f⟩,_,_,_,p⟩:=h;have q:(Fo.cons a n k r).len=r.len+1:=rfl;rw[q]at j e l f;cases e;refine⟨λi=>g (i+3),⟨by omega,_,_,by rw[Nat.add_sub_cancel],by omega,by unfold maxLen at m |-;omega,λx=> ?_⟩,p⟩;obtain⟨b,o,s,t,u⟩:=f (by omega);subst s;rw[ah (by omega)];refine⟨b,o+3,by simp[Addr.add],t,λi hi=> ?_⟩;rw[bN,u (3+i) (by omega),Nat.add_comm 3 i]
theorem iJ.ge{L:Nat}{off:Nat}{n cap:Nat}{F:Fo}(h:iJ (nO T L) w (.slice (some ⟨b,off,none⟩) n cap) F)(d:0<F.len):L<=b/\∃cur f,w.heap[b]? =some (.cells cur T f):=by
 obtain⟨_,⟨_,a,c,e,_,_,g⟩,_⟩:=h;obtain⟨m,p,o,i,j,k,_⟩:=g d;cases e;cases i;obtain⟨l,cur,f,rfl⟩:=j;exact⟨l,cur,f,k⟩
abbrev agA:Oper:=⟨some 36,.move (.tmp 11),24,eJ,#[],none⟩
abbrev agB:Oper:=⟨some 37,.indexAddr 24 (.tmp 36) (.const (.int .i64 0)),0,eJ,#[aj 0],none⟩
abbrev agC:Oper:=⟨some 38,.load 26 (.tmp 37),26,eJ,#[aj 1],none⟩
abbrev agD:Oper:=⟨some 39,.move (.tmp 11),24,eJ,#[],none⟩
abbrev agE:Oper:=⟨some 40,.slice 24 (.tmp 39) (some (.const (.int .i64 1))) none none,24,eJ,#[aj 3],none⟩
abbrev agF:Oper:=⟨none,.store 26 (.tmp 4) (.tmp 38),0,eJ,#[aj 2,al 0,al 1,al 2,{ on:=3,ground:=Ground.textOnly Go.Departure.lateStores},{ on:=4,ground:=Ground.textOnly Go.Departure.lateStoresUnsure}],none⟩
abbrev agG:Oper:=⟨some 5,.assign (.tmp 40),24,eJ,#[aj 4,ao 5,al 0,al 1,al 2,al 3,al 4,al 5],none⟩
abbrev agH:Oper:=⟨some 6,.assign (.const (.int .i64 0)),30,eJ,#[ao 6,al 0,al 1,al 2,al 3,al 4,al 5,al 6],none⟩
def ab3:Array Oper:= #[agA,agB,agC,agD,agE,agF,agG,agH]
theorem TY(m:Md)(t:Nd)(mv tv:Value)(w:World)(B:Nat)(hm:jM w B mv m)(ht:cV w B tv t)(hB:B<=w.heap.size)(hz:∀r∈m.prog.rules,nh r)(MK:m.bH.length<=8)(A:t.size<=100000)(yP:iy m=true)(Ue:fA m.prog.sig=true)(uD:dq m.prog.sig t=true){types:List Nd}(s:vC true m=.ok types){S:Ck}{n:Nat}(C:vO true (kn m types []) (cC t) t=some (S,n)){us:List Nd}(hU:JR (cC t) (some (S,n))=.ok us)(F:Fi m=true)(hl:t.one.low=true):
 Calls Tryz.prog 29 #[mv,tv] w λe w'=>Below w.heap.size w w'/\YI w' (.ok us) e:=by
 have HM:=hI hm;obtain⟨dv,cv,fv,rv,rfl,z,hc,E,H⟩:=hm;obtain⟨da,dc,rfl⟩:=z.slice;obtain⟨ca,cc,rfl⟩:=hc.slice;obtain⟨fa,fc,rfl⟩:=E.slice;obtain⟨ra,rc,rfl⟩:=H.slice;obtain⟨sv,rfl,y⟩:=ht;obtain⟨ka,kc,rfl⟩:=y.slice;obtain⟨Y,l,g,a⟩:=UQ w (.cells #[.slice da m.bH.length dc,.slice ca m.prog.sig.cons.length cc,.slice fa m.prog.sig.bj.length fc,.slice ra m.prog.rules.length rc] 50) (.cells #[.int .i64 t.a,.int .i64 t.n,.slice ka t.k.len kc] 54) (.cells #[.int .i64 0,.int .i64 0,.slice none 0 0] 26);obtain⟨HC,HTZ,fT,Uk,WD⟩:=h_5 (TX m t (.agg #[.slice da m.bH.length dc,.slice ca m.prog.sig.cons.length cc,.slice fa m.prog.sig.bj.length fc,.slice ra m.prog.rules.length rc]) (.agg #[.int .i64 t.a,.int .i64 t.n,.slice ka t.k.len kc]) Y w.heap.size ((HM.o.mono hB).below g lR) ⟨_,rfl,(y.mono hB).below g lR⟩ g.size hz MK A yP Ue uD s C F hl) A g a l;have x0:=cZ a.1;have x1:=eY a.1;have T:=fu a.1;have I:=xk a.1;have G:=cZ a.2.1;have J:=eY a.2.1;have O:=fu a.2.1;have Q:=af x0;have R:=af G;have HX0:=hI C;have HU:=hI hU;clear z hc E H y hB hz MK A g a l yP Ue uD s C hU;have TU:Hd (∀(j:World),Below Y.heap.size Y j->(j.heap[w.heap.size+2]? =some (.cells #[.int .i64 0,.int .i64 0,.slice none 0 0] 26 (0,0))/\Below w.heap.size w j)):=hI λj h=>⟨cY h Uk.o.2.2,ag fT.o h lR⟩
 go_enter Tryz.func29,Tryz.ntmps29
 go_upto_region 1 with fail
 rw[<-WD.o]
 go_wp2_with fail
 refine HC.o.mono ?_;rintro e j ⟨W,l⟩;clear x0 x1 T I G J O Q R;obtain⟨nL,u⟩:=TU.o j W;have oy:=hI nL;have als:=hI u;obtain⟨st,kg⟩:=TA HX0.o;obtain⟨X,c,nv,rfl,iB,l8,g,k_,P,Gu,y,M⟩:=l;have N:=uJ g.ok.low.good.wf (xT g.ok.low.good.wf kg);have Dn:∀i,i<S.g.length->((aX S.g i).sort=0\/(aX S.g i).sort=2\/(aX S.g i).sort=3\/(aX S.g i).sort=4)/\(aX S.g i).parts.length<=1000000:=λi hi=>by
  have:=Gu i hi;exact⟨this.1,by omega⟩
 obtain⟨ns,z⟩:=xE (n::(cC t).map (ur S));have mG:JR (cC t) (some (S,n))=(match uK (ns.map (iP S.g))with|none=>.px|some ts=>.ok ts):=by rw[z];rfl
 rw[<-z]at y M;have E:ns.length<=1000000:=by rw[z,aD,aW];have:=iL t;have:=HTZ.o;omega
 have G:1<=ns.length:=by rw[z];simp
 obtain⟨na,nc,rfl⟩:=M.slice;obtain⟨r,gv,ps,uv,up,Q⟩:=l8;have c0:j.cell? ⟨X.cx,0,none⟩=some (.pointer (some ⟨X.gx,0,none⟩)):=Q.at.c0;have zc:=af c0;obtain⟨D,H,I,a⟩:=CD j (.cells #[.pointer (some ⟨X.gx,0,none⟩),.slice none 0 0,.bool false] 119);have iH:ed jU D X.base X.gx S.g r gv ps:=(Q.below I).gr;have Kf:oS D 0 j.heap.size X.gx [] none (.slice none 0 0) false:=⟨a,rfl,aZ _ _ _ _⟩;have J:dw D (.slice na ns.length nc) ns:=M.keep λb cur f hq=>cY I hq;have R:∀(T:Option Nat) (V:World),mR j.heap.size none T D V->Ints V V.heap.size (.slice na ns.length nc) (cX ns):=λT V O=>(J.keep λb cur f d=>O.same b _ d (λe=>by
  subst e;rw[a]at d;simp only[aL,Obj.cells.injEq]at d;exact ay d.2.1 (by decide)) (by simp)).ints
 have HC5:=hI (Iq g.ok.low.good Dn N _ ns D [] none (.slice none 0 0) false (R _ _ (mR.refl _ _ _)) R y iH Kf (Sep.none _) E (by simp));have HKN:Hd (∀us,uK (ns.map (iP S.g))=some us->us.length=ns.length):=hI λus XM=>by
  have:=(Kz (λx T=>by obtain⟨k,U,rfl⟩:=aN.1 T;exact N.plain g.ok.low.good k (y k U)) (λx T=>by obtain⟨k,U,rfl⟩:=aN.1 T;exact N.jL g.ok.low.good k (y k U)) XM).1;rw[aW]at this;exact this
 obtain⟨HRA,HW5,jP,HNS,Hb⟩:=h_5 mG H I G (cY I oy.o);clear nL u W kg iB g k_ P Gu y M N Dn z mG E G Q I a H iH Kf J R
 go_upto_region 5 with fail
 rw[<-HW5.o];clear c0 zc
 go_wp2_with fail
 refine HC5.o.mono ?_;rintro e J ⟨Ts,kv,o_,qN,yz,rC,rfl,z,T,E,a,O,l⟩;have g:Below j.heap.size j J:=jP.o.trans (O.toBelow lR (λq e=>by cases e) jP.o.size);have H:=Ir l;have y:=l.len;rw[aW]at y;obtain⟨M,Fk,qD,Gk⟩:=h_4 (ag als.o g lR) (cY g oy.o) (LF E) z;have N:Hd (w.heap.size+2<D.heap.size):=hI (gE Hb.o).1;have s:=HRA.o;rw[H]at s;have Gj:=hI y;clear z T E a O l g H y;cases d:(!rC&&decide (o_.length<=20))with
 |false=>
  rw[d]at s;cases HU.o.symm.trans s
 |true=>
  rw[d]at s qD;simp only[if_true]at s;have HR:=hI s;clear d s
  go_wp2_with fail
  refine qD.o.mono ?_;rintro e y ⟨rfl,g⟩;rw[g];clear g y;cases Ts with
  |nil=>exact ay Gj.o (by have:=HNS.o;simp;omega)
  |cons a u=>
   have g:=Gk.o;obtain⟨kb,l,rfl⟩:=g.slice;obtain⟨b,off,cap,p,O,ui,fF,f0,f1,f2,z⟩:=g.cell (k:=0) (by show 0<(Fo.of u).len+1;omega);cases ui;obtain⟨E,amf,f6,y⟩:=g.ge (by show 0<(Fo.of u).len+1;omega);have IK:(Fo.of (a::u)).len=(Fo.of u).len+1:=rfl;have mF:(Fo.of (a::u)).at 0=a:=rfl;rw[mF]at f0 f1 f2 z;rw[IK]at g |-;simp only[Nat.zero_mul,Nat.add_zero]at f0 f1 f2;have T:=af f0;obtain⟨L,F⟩:=xE ((Fo.of u).len+1);rw[<-F]at g |-;have hI0:(0:Int)<(L:Int):=by omega
   have hN0:0<L:=by omega
   have hN1:1<=L:=hN0;have hI1:(1:Int)<=(L:Int):=by omega
   have Bc:L<=140737488355328:=by rw[F];obtain⟨_,⟨hh,_⟩,_⟩:=g;exact hh
   have HTA:=hI g;have WT:=hI z;have wQ:=hI F;have HGE:Hd (w.heap.size+2<b):=hI (by have:=N.o;omega);have I7:=hI y;have Xl:=hI (show _/\_/\_ from⟨f0,f1,f2⟩);clear z g F E y
   go_wp2_with fail
   refine wp_region_held_drew (S:=λV=>V.cell? ⟨b,off,none⟩=some (.int .i64 a.a)/\V.cell? ⟨b,off+1,none⟩=some (.int .i64 a.n)/\V.cell? ⟨b,off+2,none⟩=some (.slice p a.k.len O)/\b<V.heap.size) (by kernel_rfl) ⟨f0,f1,f2,T⟩ (λhHeld=> ?_)
   change wpAnyH _ _ ab3 _ _ _ _ _ _
   refine kL (λZ=>Below J.heap.size J Z) (Below.ia bR) hHeld ?_;clear hHeld;rintro V H hHeld;have g:=cY H Fk.o;have b0:=cZ g;have b1:=eY g;have b2:=fu g;have b3:∀y,V.frozen? ⟨w.heap.size+2,y,none⟩=false:=λy=>by simp[World.frozen?,g]
   have zv:=af b0;have Sz:=hI g;have U:=hI H;clear f0 f1 f2 T g H;refine qA 0 ⟨some 36,.move (.tmp 11),24,eJ,#[],none⟩ hHeld ?_;refine qA 1 ⟨some 37,.indexAddr 24 (.tmp 36) (.const (.int .i64 0)),0,eJ,#[aj 0],none⟩ hHeld ?_;refine qA 2 ⟨some 38,.load 26 (.tmp 37),26,eJ,#[aj 1],none⟩ hHeld ?_;refine qA 3 ⟨some 39,.move (.tmp 11),24,eJ,#[],none⟩ hHeld ?_;refine qA 4 ⟨some 40,.slice 24 (.tmp 39) (some (.const (.int .i64 1))) none none,24,eJ,#[aj 3],none⟩ hHeld ?_;refine qR 5 ⟨none,.store 26 (.tmp 4) (.tmp 38),0,eJ,#[aj 2,al 0,al 1,al 2,{ on:=3,ground:=Ground.textOnly Go.Departure.lateStores},{ on:=4,ground:=Ground.textOnly Go.Departure.lateStoresUnsure}],none⟩ λK z=> ?_;go_simp;have G:=LJ Sz.o (.int .i64 a.a) (.int .i64 a.n) (.slice p a.k.len O);obtain⟨W',P⟩:=xE (((V.setCell ⟨w.heap.size+2,0,none⟩ (.int .i64 a.a)).setCell ⟨w.heap.size+2,1,none⟩ (.int .i64 a.n)).setCell ⟨w.heap.size+2,2,none⟩ (.slice p a.k.len O));rw[show w.heap.size+1+1=w.heap.size+2 from rfl]at*;rw[<-P]at G |-;have Q:=cY U.o I7.o;have E:=G.1.same _ _ (by have:=HGE.o;omega) Q;have y:∀o,W'.cell? ⟨b,o,none⟩=J.cell? ⟨b,o,none⟩:=λo=>by rw[cell_of_row _ _ _ _ _ _ E,cell_of_row _ _ _ _ _ _ I7.o]
   have R:=show _/\_/\_/\_ from⟨(y _).trans Xl.o.1,(y _).trans Xl.o.2.1,(y _).trans Xl.o.2.2,(gE E).1⟩;have jz:gN (nO 26 D.heap.size) J W':=λq o hS hq=>G.1.same _ _ (by have:=hS.1;have:=N.o;omega) (cY U.o hq);obtain⟨g,HSE,Zr⟩:=h_3 jz G R;have No:Hd (Below w.heap.size w W'):=hI ((ag M.o U.o lR).trans (G.1.below (by omega) (by have h1:=(ag M.o U.o lR).size;exact h1)));clear G Q E y R jz P b0 b1 b2 b3 zv hHeld;refine qK z (Zr.o) λhHeld=> ?_;clear z K;refine qR 6 ⟨some 5,.assign (.tmp 40),24,eJ,#[aj 4,ao 5,al 0,al 1,al 2,al 3,al 4,al 5],none⟩ λK z=> ?_;go_simp;refine qK z (hHeld) λhHeld=> ?_;clear z K;refine qR 7 ⟨some 6,.assign (.const (.int .i64 0)),30,eJ,#[ao 6,al 0,al 1,al 2,al 3,al 4,al 5,al 6],none⟩ λK z=> ?_;go_simp;refine qK z (hHeld) λhHeld=> ?_;clear z K;refine wpAnyH_done (by kernel_rfl) ?_ _;clear hHeld;have W:=HSE.o.2;have H:=cZ W;have r1:=eY W;have r2:=fu W;have Bu:=(HTA.o.keep g.o).at_ (B:=W'.heap.size) λb o d _=>(gE d).1;rw[wQ.o]at Bu;have I:=ab2 Bu;rw[<-wQ.o]at I;have T:l=1->dr W' W'.heap.size (.slice (some ⟨b,off,none⟩) (L-1) 0) (Fo.of u):=λh=>by rw[aq h,h]at I;exact I
   have y:¬l=1->dr W' W'.heap.size (.slice (some ⟨b,off+3,none⟩) (L-1) (l-1)) (Fo.of u):=λh=>by rw[ah h]at I;exact I
   obtain⟨G,Q,z⟩:=h_3 T y (show _/\_/\_ from⟨H,r1,r2⟩);clear W Bu I T y H r1 r2;by_cases E:l=1
   ·rw[aq E,E];go_wp2;obtain⟨H,r1,r2⟩:=z.o;refine bodyPost_ret (v:=.tuple #[.agg #[.int .i64 a.a,.int .i64 a.n,.slice p a.k.len O],.slice (some ⟨b,off,none⟩) (L-1) 0,.int .i64 0]) (by simp[results,Tryz.results29,go_sem,H,r1,r2]) rfl ?_;cases HU.o.symm.trans HR.o;exact⟨No.o,_,_,rfl,⟨_,rfl,(WT.o.keep g.o).at_ λb o d _=>(gE d).1⟩,by show dr _ _ _ ((Fo.of u).drop 0);rw[Fo.drop_zero];exact G.o E⟩
   ·rw[ah E];go_wp2;obtain⟨H,r1,r2⟩:=z.o;refine bodyPost_ret (v:=.tuple #[.agg #[.int .i64 a.a,.int .i64 a.n,.slice p a.k.len O],.slice (some ⟨b,off+3,none⟩) (L-1) (l-1),.int .i64 0]) (by simp[results,Tryz.results29,go_sem,H,r1,r2]) rfl ?_;cases HU.o.symm.trans HR.o;exact⟨No.o,_,_,rfl,⟨_,rfl,(WT.o.keep g.o).at_ λb o d _=>(gE d).1⟩,by show dr _ _ _ ((Fo.of u).drop 0);rw[Fo.drop_zero];exact Q.o E⟩
def PQ(w:World)(t:Nd)(e:Ending)(w':World):Prop:=∃v,e=.returned v/\cV w' w'.heap.size v t/\Below w.heap.size w w'
theorem gu(w:World)(B:Nat):dr w B (.slice none 0 0) .nil:=⟨λ_=>undef,⟨aw _,none,0,rfl,lR,by decide,λh=>ay h (dy _)⟩,trivial⟩
theorem FL{cells:List Value}(h:w.heap[b]? =some (.cells cells.toArray T (0,0)))(a:b<B){F:Fo}(c:cells.length=F.len*3)(d:0<F.len)(hm:F.len<=1000)(hc:iQ w B F λi=>cells[i]?.getD undef):dr w B (.slice (some ⟨b,0,none⟩) F.len F.len) F:=
 ⟨_,⟨by omega,_,_,rfl,lR,by unfold maxLen;omega,λ_=>⟨b,0,rfl,a,λi hi=>by
  rw[a8,cell_of_row _ _ _ _ _ _ h,aF,ae (by omega)];rfl⟩⟩,hc⟩
def StW(w w' W:World):Prop:=w'.heap.size<=W.heap.size/\∀(q:Nat) (o:Obj),w.heap.size<=q->w'.heap[q]? =some o->W.heap[q]? =some o
theorem adq(n:Int)(w:World):Calls Tryz.prog 38 #[.int .i64 n] w λe w'=>e=.returned (.agg #[.int .i64 1,.int .i64 n,.slice none 0 0])/\Below w.heap.size w w':=by
 obtain⟨a,b⟩:=qS w (.cells #[.int .i64 1,.int .i64 n,.slice none 0 0] 26);have d:=hI a;have c:=hI b;clear a b
 go_enter Tryz.func38,Tryz.ntmps38
 go_wp2;have a:=congrArg (λo:Option Obj=>o) c.o;refine bodyPost_ret (v:=.agg #[.int .i64 1,.int .i64 n,.slice none 0 0]) (by
  have c0:∀V:World,V.heap[w.heap.size]? =some (.cells #[.int .i64 1,.int .i64 n,.slice none 0 0] 26 (0,0))->V.cell? ⟨w.heap.size,0,none⟩=some (.int .i64 1)/\V.cell? ⟨w.heap.size,1,none⟩=some (.int .i64 n)/\V.cell? ⟨w.heap.size,2,none⟩=some (.slice none 0 0):=λV h=>⟨by rw[cell_of_row _ _ _ _ _ _ h];rfl,by rw[cell_of_row _ _ _ _ _ _ h];rfl,by rw[cell_of_row _ _ _ _ _ _ h];rfl⟩;obtain⟨b,q1,f⟩:=c0 _ c.o;simp[results,Tryz.results38,go_sem,b,q1,f]) rfl ?_
 clear a;exact⟨rfl,d.o⟩
theorem jI(n:Int)(w:World):Calls Tryz.prog 38 #[.int .i64 n] w (PQ w ⟨1,n,.nil⟩):=by
 obtain⟨a,b⟩:=qS w (.cells #[.int .i64 1,.int .i64 n,.slice none 0 0] 26);have d:=hI a;have c:=hI b;clear a b
 go_enter Tryz.func38,Tryz.ntmps38
 go_wp2;have a:=congrArg (λo:Option Obj=>o) c.o;refine bodyPost_ret (v:=.agg #[.int .i64 1,.int .i64 n,.slice none 0 0]) (by
  have c0:∀V:World,V.heap[w.heap.size]? =some (.cells #[.int .i64 1,.int .i64 n,.slice none 0 0] 26 (0,0))->V.cell? ⟨w.heap.size,0,none⟩=some (.int .i64 1)/\V.cell? ⟨w.heap.size,1,none⟩=some (.int .i64 n)/\V.cell? ⟨w.heap.size,2,none⟩=some (.slice none 0 0):=λV h=>⟨by rw[cell_of_row _ _ _ _ _ _ h];rfl,by rw[cell_of_row _ _ _ _ _ _ h];rfl,by rw[cell_of_row _ _ _ _ _ _ h];rfl⟩;obtain⟨b,q1,e⟩:=c0 _ c.o;simp[results,Tryz.results38,go_sem,b,q1,e]) rfl ?_
 clear a;exact⟨_,rfl,⟨_,rfl,gu _ _⟩,d.o⟩
theorem tK(w:World):Calls Tryz.prog 41 #[] w (PQ w ⟨2,0,.nil⟩):=by
 obtain⟨a,b⟩:=qS w (.cells #[.int .i64 2,.int .i64 0,.slice none 0 0] 26);have d:=hI a;have c:=hI b;clear a b
 go_enter Tryz.func41,Tryz.ntmps41
 go_wp2;have a:=congrArg (λo:Option Obj=>o) c.o;refine bodyPost_ret (v:=.agg #[.int .i64 2,.int .i64 0,.slice none 0 0]) (by
  have c0:∀V:World,V.heap[w.heap.size]? =some (.cells #[.int .i64 2,.int .i64 0,.slice none 0 0] 26 (0,0))->V.cell? ⟨w.heap.size,0,none⟩=some (.int .i64 2)/\V.cell? ⟨w.heap.size,1,none⟩=some (.int .i64 0)/\V.cell? ⟨w.heap.size,2,none⟩=some (.slice none 0 0):=λV h=>⟨by rw[cell_of_row _ _ _ _ _ _ h];rfl,by rw[cell_of_row _ _ _ _ _ _ h];rfl,by rw[cell_of_row _ _ _ _ _ _ h];rfl⟩;obtain⟨b,q1,e⟩:=c0 _ c.o;simp[results,Tryz.results41,go_sem,b,q1,e]) rfl ?_
 clear a;exact⟨_,rfl,⟨_,rfl,gu _ _⟩,d.o⟩
theorem M6(t:Nd)(tv:Value)(w:World)(B:Nat)(b:cV w B tv t)(hB:B<=w.heap.size):Calls Tryz.prog 65 #[tv] w λe w'=>∃v,e=.returned v/\Below w.heap.size w w'/\∀W B',StW w w' W->cV W B' tv t->B'<=W.heap.size->cV W W.heap.size v ⟨4,1,Fo.of [t]⟩:=by
 obtain⟨kv,rfl,c⟩:=b;obtain⟨ka,kc,rfl⟩:=c.slice;obtain⟨d,f⟩:=nH3 w (.cells #[.int .i64 t.a,.int .i64 t.n,.slice ka t.k.len kc] 26) (.cells #[.int .i64 4,.int .i64 1,.slice (some ⟨w.heap.size+1+1,0,none⟩) 1 1] 26) (.cells #[.int .i64 t.a,.int .i64 t.n,.slice ka t.k.len kc] 26);obtain⟨i,g,a⟩:=h_3 (c.below d hB) d f;clear c hB d f
 go_enter Tryz.func65,Tryz.ntmps65
 go_wp2;generalize c:(((w.alloc (.cells #[.int .i64 t.a,.int .i64 t.n,.slice ka t.k.len kc] 26)).alloc (.cells #[.int .i64 4,.int .i64 1,.slice (some ⟨w.heap.size+1+1,0,none⟩) 1 1] 26)).alloc (.cells #[.int .i64 t.a,.int .i64 t.n,.slice ka t.k.len kc] 26))=W;rw[c]at i g a;clear c;refine bodyPost_ret (v:=.agg #[.int .i64 4,.int .i64 1,.slice (some ⟨w.heap.size+1+1,0,none⟩) 1 1]) (by
  have c0:∀V:World,V.heap[w.heap.size+1]? =some (.cells #[.int .i64 4,.int .i64 1,.slice (some ⟨w.heap.size+1+1,0,none⟩) 1 1] 26 (0,0))->V.cell? ⟨w.heap.size+1,0,none⟩=some (.int .i64 4)/\V.cell? ⟨w.heap.size+1,1,none⟩=some (.int .i64 1)/\V.cell? ⟨w.heap.size+1,2,none⟩=some (.slice (some ⟨w.heap.size+1+1,0,none⟩) 1 1):=λV h=>⟨by rw[cell_of_row _ _ _ _ _ _ h];rfl,by rw[cell_of_row _ _ _ _ _ _ h];rfl,by rw[cell_of_row _ _ _ _ _ _ h];rfl⟩;obtain⟨c,q1,d⟩:=c0 W a.o.2.1;simp[results,Tryz.results65,go_sem,c,q1,d]) rfl ?_
 refine⟨_,rfl,g.o,λV B' d b c=> ?_⟩;have f:=(gE a.o.2.2).1;obtain⟨m,j,k⟩:=b;cases j;obtain⟨ck,l,hc⟩:=k.mono (B':=V.heap.size) c;exact⟨_,rfl,FL (F:=Fo.of [t]) (cells:=[.int .i64 t.a,.int .i64 t.n,.slice ka t.k.len kc]) (d.2 _ _ (by omega) a.o.2.2) (aC f d.1) rfl (by decide:0<1) (by decide:1<=1000) ⟨rfl,rfl,⟨ck,l,hc⟩,trivial⟩⟩
theorem kT(t:Nd)(tv:Value)(w:World)(B:Nat)(b:cV w B tv t)(hB:B<=w.heap.size):Calls Tryz.prog 65 #[tv] w (PQ w ⟨4,1,Fo.of [t]⟩):=by
 refine(M6 t tv w B b hB).mono ?_;rintro e w' ⟨v,rfl,a,c⟩;exact⟨v,rfl,c w' w.heap.size ⟨lR,λ_ _ _ h=>h⟩ ((b.mono hB).below a lR) a.size,a⟩
theorem gO(t u:Nd)(tv uv:Value)(w:World)(B:Nat)(l:cV w B tv t)(hu:cV w B uv u)(hB:B<=w.heap.size):Calls Tryz.prog 42 #[tv,uv] w (PQ w ⟨3,0,Fo.of [t,u]⟩):=by
 obtain⟨kv,rfl,d⟩:=l;obtain⟨ka,kc,rfl⟩:=d.slice;obtain⟨lv,rfl,e⟩:=hu;obtain⟨a,lc,rfl⟩:=e.slice;have b:=Below.ZO w (.cells #[.int .i64 t.a,.int .i64 t.n,.slice ka t.k.len kc] 26) (.cells #[.int .i64 u.a,.int .i64 u.n,.slice a u.k.len lc] 26) (.cells #[.int .i64 3,.int .i64 0,.slice (some ⟨w.heap.size+1+1+1,0,none⟩) 2 2] 26) (.cells #[.int .i64 t.a,.int .i64 t.n,.slice ka t.k.len kc,.int .i64 u.a,.int .i64 u.n,.slice a u.k.len lc] 26);have f:=mO w (.cells #[.int .i64 t.a,.int .i64 t.n,.slice ka t.k.len kc] 26) (.cells #[.int .i64 u.a,.int .i64 u.n,.slice a u.k.len lc] 26) (.cells #[.int .i64 3,.int .i64 0,.slice (some ⟨w.heap.size+1+1+1,0,none⟩) 2 2] 26) (.cells #[.int .i64 t.a,.int .i64 t.n,.slice ka t.k.len kc,.int .i64 u.a,.int .i64 u.n,.slice a u.k.len lc] 26);obtain⟨g,i,j,k,c⟩:=h_5 (d.below b hB) (e.below b hB) hB b f;clear d e hB b f
 go_enter Tryz.func42,Tryz.ntmps42
 go_wp2;generalize b:((((w.alloc (.cells #[.int .i64 t.a,.int .i64 t.n,.slice ka t.k.len kc] 26)).alloc (.cells #[.int .i64 u.a,.int .i64 u.n,.slice a u.k.len lc] 26)).alloc (.cells #[.int .i64 3,.int .i64 0,.slice (some ⟨w.heap.size+1+1+1,0,none⟩) 2 2] 26)).alloc (.cells #[.int .i64 t.a,.int .i64 t.n,.slice ka t.k.len kc,.int .i64 u.a,.int .i64 u.n,.slice a u.k.len lc] 26))=W;rw[b]at g i k c;clear b;refine bodyPost_ret (v:=.agg #[.int .i64 3,.int .i64 0,.slice (some ⟨w.heap.size+1+1+1,0,none⟩) 2 2]) (by
  have c0:∀V:World,V.heap[w.heap.size+1+1]? =some (.cells #[.int .i64 3,.int .i64 0,.slice (some ⟨w.heap.size+1+1+1,0,none⟩) 2 2] 26 (0,0))->V.cell? ⟨w.heap.size+1+1,0,none⟩=some (.int .i64 3)/\V.cell? ⟨w.heap.size+1+1,1,none⟩=some (.int .i64 0)/\V.cell? ⟨w.heap.size+1+1,2,none⟩=some (.slice (some ⟨w.heap.size+1+1+1,0,none⟩) 2 2):=λV h=>⟨by rw[cell_of_row _ _ _ _ _ _ h];rfl,by rw[cell_of_row _ _ _ _ _ _ h];rfl,by rw[cell_of_row _ _ _ _ _ _ h];rfl⟩;obtain⟨b,q1,d⟩:=c0 W c.o.2.2.1;simp[results,Tryz.results42,go_sem,b,q1,d]) rfl ?_
 have b:w.heap.size+3<W.heap.size:=(gE c.o.2.2.2).1;obtain⟨ck,d,hc⟩:=g.o.mono (B':=W.heap.size) (by have:=j.o;omega);obtain⟨e,f,m⟩:=i.o.mono (B':=W.heap.size) (by have:=j.o;omega);exact⟨_,rfl,⟨_,rfl,FL (F:=Fo.of [t,u]) (cells:=[.int .i64 t.a,.int .i64 t.n,.slice ka t.k.len kc,.int .i64 u.a,.int .i64 u.n,.slice a u.k.len lc]) c.o.2.2.2 b rfl (by decide:0<2) (by decide:2<=1000) ⟨rfl,rfl,⟨ck,d,hc⟩,rfl,rfl,⟨e,f,m⟩,trivial⟩⟩,k.o⟩
theorem YK(n:Int)(w:World):Calls Tryz.prog 69 #[.int .i64 n] w (PQ w ⟨1,n,.nil⟩):=by
 obtain⟨a,b⟩:=qS w (.cells #[.int .i64 1,.int .i64 n,.slice none 0 0] 54);have c:=hI a;have d:=hI b;clear a b
 go_enter Tryz.func69,Tryz.ntmps69
 go_wp2;refine bodyPost_ret (v:=.agg #[.int .i64 1,.int .i64 n,.slice none 0 0]) (by
  have c0:∀V:World,V.heap[w.heap.size]? =some (.cells #[.int .i64 1,.int .i64 n,.slice none 0 0] 54 (0,0))->V.cell? ⟨w.heap.size,0,none⟩=some (.int .i64 1)/\V.cell? ⟨w.heap.size,1,none⟩=some (.int .i64 n)/\V.cell? ⟨w.heap.size,2,none⟩=some (.slice none 0 0):=λV h=>⟨by rw[cell_of_row _ _ _ _ _ _ h];rfl,by rw[cell_of_row _ _ _ _ _ _ h];rfl,by rw[cell_of_row _ _ _ _ _ _ h];rfl⟩;obtain⟨a,q1,b⟩:=c0 _ d.o;simp[results,Tryz.results69,go_sem,a,q1,b]) rfl ?_
 exact⟨_,rfl,⟨_,rfl,gu _ _⟩,c.o⟩
theorem oL(n:Int)(w:World):Calls Tryz.prog 69 #[.int .i64 n] w λe w'=>e=.returned (.agg #[.int .i64 1,.int .i64 n,.slice none 0 0])/\Below w.heap.size w w':=by
 obtain⟨a,b⟩:=qS w (.cells #[.int .i64 1,.int .i64 n,.slice none 0 0] 54);have c:=hI a;have d:=hI b;clear a b
 go_enter Tryz.func69,Tryz.ntmps69
 go_wp2;refine bodyPost_ret (v:=.agg #[.int .i64 1,.int .i64 n,.slice none 0 0]) (by
  have c0:∀V:World,V.heap[w.heap.size]? =some (.cells #[.int .i64 1,.int .i64 n,.slice none 0 0] 54 (0,0))->V.cell? ⟨w.heap.size,0,none⟩=some (.int .i64 1)/\V.cell? ⟨w.heap.size,1,none⟩=some (.int .i64 n)/\V.cell? ⟨w.heap.size,2,none⟩=some (.slice none 0 0):=λV h=>⟨by rw[cell_of_row _ _ _ _ _ _ h];rfl,by rw[cell_of_row _ _ _ _ _ _ h];rfl,by rw[cell_of_row _ _ _ _ _ _ h];rfl⟩;obtain⟨a,q1,b⟩:=c0 _ d.o;simp[results,Tryz.results69,go_sem,a,q1,b]) rfl ?_
 exact⟨rfl,c.o⟩
theorem vQ(n:Int)(a:Option Addr)(b lc:Nat)(w:World):Calls Tryz.prog 70 #[.int .i64 n,.slice a b lc] w λe w'=>e=.returned (.agg #[.int .i64 3,.int .i64 n,.slice a b lc])/\Below w.heap.size w w':=by
 obtain⟨c,d⟩:=qS w (.cells #[.int .i64 3,.int .i64 n,.slice a b lc] 54);have f:=hI c;have g:=hI d;clear c d
 go_enter Tryz.func70,Tryz.ntmps70
 go_wp2;refine bodyPost_ret (v:=.agg #[.int .i64 3,.int .i64 n,.slice a b lc]) (by
  have c0:∀V:World,V.heap[w.heap.size]? =some (.cells #[.int .i64 3,.int .i64 n,.slice a b lc] 54 (0,0))->V.cell? ⟨w.heap.size,0,none⟩=some (.int .i64 3)/\V.cell? ⟨w.heap.size,1,none⟩=some (.int .i64 n)/\V.cell? ⟨w.heap.size,2,none⟩=some (.slice a b lc):=λV h=>⟨by rw[cell_of_row _ _ _ _ _ _ h];rfl,by rw[cell_of_row _ _ _ _ _ _ h];rfl,by rw[cell_of_row _ _ _ _ _ _ h];rfl⟩;obtain⟨c,q1,d⟩:=c0 _ g.o;simp[results,Tryz.results70,go_sem,c,q1,d]) rfl ?_
 exact⟨rfl,f.o⟩
theorem YL(n:Int)(F:Fo)(lv:Value)(w:World)(B:Nat)(b:dr w B lv F)(hB:B<=w.heap.size):Calls Tryz.prog 70 #[.int .i64 n,lv] w (PQ w ⟨3,n,F⟩):=by
 obtain⟨a,lc,rfl⟩:=b.slice;obtain⟨c,d⟩:=qS w (.cells #[.int .i64 3,.int .i64 n,.slice a F.len lc] 54);obtain⟨f,g,e,i⟩:=h_4 (b.below c hB) hB c d;clear b hB c d
 go_enter Tryz.func70,Tryz.ntmps70
 go_wp2;refine bodyPost_ret (v:=.agg #[.int .i64 3,.int .i64 n,.slice a F.len lc]) (by
  have c0:∀V:World,V.heap[w.heap.size]? =some (.cells #[.int .i64 3,.int .i64 n,.slice a F.len lc] 54 (0,0))->V.cell? ⟨w.heap.size,0,none⟩=some (.int .i64 3)/\V.cell? ⟨w.heap.size,1,none⟩=some (.int .i64 n)/\V.cell? ⟨w.heap.size,2,none⟩=some (.slice a F.len lc):=λV h=>⟨by rw[cell_of_row _ _ _ _ _ _ h];rfl,by rw[cell_of_row _ _ _ _ _ _ h];rfl,by rw[cell_of_row _ _ _ _ _ _ h];rfl⟩;obtain⟨c,q1,d⟩:=c0 _ i.o;simp[results,Tryz.results70,go_sem,c,q1,d]) rfl ?_
 exact⟨_,rfl,⟨_,rfl,f.o.mono (ai g.o e.o.size)⟩,e.o⟩
theorem vR(n:Int)(a:Option Addr)(b lc:Nat)(w:World):Calls Tryz.prog 68 #[.int .i64 n,.slice a b lc] w λe w'=>e=.returned (.agg #[.int .i64 4,.int .i64 n,.slice a b lc])/\Below w.heap.size w w':=by
 obtain⟨c,d⟩:=qS w (.cells #[.int .i64 4,.int .i64 n,.slice a b lc] 54);have f:=hI c;have g:=hI d;clear c d
 go_enter Tryz.func68,Tryz.ntmps68
 go_wp2;refine bodyPost_ret (v:=.agg #[.int .i64 4,.int .i64 n,.slice a b lc]) (by
  have c0:∀V:World,V.heap[w.heap.size]? =some (.cells #[.int .i64 4,.int .i64 n,.slice a b lc] 54 (0,0))->V.cell? ⟨w.heap.size,0,none⟩=some (.int .i64 4)/\V.cell? ⟨w.heap.size,1,none⟩=some (.int .i64 n)/\V.cell? ⟨w.heap.size,2,none⟩=some (.slice a b lc):=λV h=>⟨by rw[cell_of_row _ _ _ _ _ _ h];rfl,by rw[cell_of_row _ _ _ _ _ _ h];rfl,by rw[cell_of_row _ _ _ _ _ _ h];rfl⟩;obtain⟨c,q1,d⟩:=c0 _ g.o;simp[results,Tryz.results68,go_sem,c,q1,d]) rfl ?_
 exact⟨rfl,f.o⟩
theorem YM(n:Int)(F:Fo)(lv:Value)(w:World)(B:Nat)(b:dr w B lv F)(hB:B<=w.heap.size):Calls Tryz.prog 68 #[.int .i64 n,lv] w (PQ w ⟨4,n,F⟩):=by
 obtain⟨a,lc,rfl⟩:=b.slice;obtain⟨c,d⟩:=qS w (.cells #[.int .i64 4,.int .i64 n,.slice a F.len lc] 54);obtain⟨f,g,e,i⟩:=h_4 (b.below c hB) hB c d;clear b hB c d
 go_enter Tryz.func68,Tryz.ntmps68
 go_wp2;refine bodyPost_ret (v:=.agg #[.int .i64 4,.int .i64 n,.slice a F.len lc]) (by
  have c0:∀V:World,V.heap[w.heap.size]? =some (.cells #[.int .i64 4,.int .i64 n,.slice a F.len lc] 54 (0,0))->V.cell? ⟨w.heap.size,0,none⟩=some (.int .i64 4)/\V.cell? ⟨w.heap.size,1,none⟩=some (.int .i64 n)/\V.cell? ⟨w.heap.size,2,none⟩=some (.slice a F.len lc):=λV h=>⟨by rw[cell_of_row _ _ _ _ _ _ h];rfl,by rw[cell_of_row _ _ _ _ _ _ h];rfl,by rw[cell_of_row _ _ _ _ _ _ h];rfl⟩;obtain⟨c,q1,d⟩:=c0 _ i.o;simp[results,Tryz.results68,go_sem,c,q1,d]) rfl ?_
 exact⟨_,rfl,⟨_,rfl,f.o.mono (ai g.o e.o.size)⟩,e.o⟩
theorem wL(v:Value)(w:World):Calls Tryz.prog 137 #[v] w λe w'=>e=.returned v/\w'=w:=by
 go_enter Tryz.func137,Tryz.ntmps137
 go_wp2;go_ret;exact⟨rfl,rfl⟩
theorem qy{n sz:Nat}{cells:List Value}(h:w.heap[b]? =some (.cells cells.toArray T (0,0)))(a:b<B)(d:cells.length=n*sz)(hm:n<=1000):Row w B sz (.slice (some ⟨b,0,none⟩) n n) n λi=>cells[i]?.getD undef:=
 ⟨by omega,_,_,rfl,lR,by unfold maxLen;omega,λ_=>⟨b,0,rfl,a,λi hi=>by
  have c:i<cells.length:=by omega
  rw[a8,cell_of_row _ _ _ _ _ _ h,aF];show cells[i]? =some (cells[i]?.getD undef);rw[ae c];rfl⟩⟩
def j3:List fV:=[⟨⟨#[66,111,111,108]⟩,0,[.nil,.nil]⟩,⟨⟨#[76,105,115,116]⟩,1,[.nil,Fo.of [⟨1,0,.nil⟩,⟨4,1,Fo.of [⟨1,0,.nil⟩]⟩]]⟩]
theorem FM(w:World):Calls Tryz.prog 64 #[] w λe w'=>∃v,e=.returned v/\Below w.heap.size w w'/\∀W,StW w w' W->eB W W.heap.size v j3:=by
 obtain⟨H,a,b,d⟩:=CD w (.cells #[.slice none 0 0,.slice none 0 0] 24);obtain⟨I,J,A,K⟩:=h_4 (adq 0 H) b d a;clear b d a
 go_enter Tryz.func64,Tryz.ntmps64
 go_wp2_with fail
 rw[<-K.o];refine I.o.mono ?_;rintro e L ⟨rfl,a⟩;obtain⟨M,N,p⟩:=h_3 (adq 0 L) (ag J.o a lR) a;clear a
 go_wp2_with fail
 refine M.o.mono ?_;rintro e k ⟨rfl,a⟩;obtain⟨O,B,r⟩:=h_3 (M6 ⟨1,0,.nil⟩ (.agg #[.int .i64 1,.int .i64 0,.slice none 0 0]) k k.heap.size ⟨_,rfl,gu _ _⟩ lR) (ag N.o a lR) (ag p.o a lR);clear a
 go_wp2_with fail
 refine O.o.mono ?_;rintro e a ⟨v4,rfl,l,g⟩;obtain⟨s,C,j⟩:=h_3 l.size (ag B.o l lR) (ag r.o l lR);have D:Hd (∀W,StW k a W->cV W W.heap.size v4 ⟨4,1,Fo.of [⟨1,0,.nil⟩]⟩):=hI λW t=>g W 0 t ⟨_,rfl,gu _ _⟩ (aw _);obtain⟨E,rfl,m⟩:=D.o a ⟨lR,λ_ _ _ h=>h⟩;obtain⟨a4,c4,rfl⟩:=m.slice;have P:=hI B.o.size;clear l g m;go_wp2;obtain⟨b,c⟩:=nH3 a (.cells #[.int .i64 1,.int .i64 0,.slice none 0 0,.int .i64 4,.int .i64 1,.slice a4 (Fo.of [⟨1,0,.nil⟩]).len c4] 26) (.cells #[.slice none 0 0,.slice (some ⟨a.heap.size,0,none⟩) 2 2] 24) (.cells #[.string ⟨#[66,111,111,108]⟩,.int .i64 0,.slice (some ⟨w.heap.size,0,none⟩) 2 2,.string ⟨#[76,105,115,116]⟩,.int .i64 1,.slice (some ⟨a.heap.size+1,0,none⟩) 2 2] 186);generalize t:((a.alloc (.cells #[.int .i64 1,.int .i64 0,.slice none 0 0,.int .i64 4,.int .i64 1,.slice a4 (Fo.of [⟨1,0,.nil⟩]).len c4] 26)).alloc (.cells #[.slice none 0 0,.slice (some ⟨a.heap.size,0,none⟩) 2 2] 24)).alloc (.cells #[.string ⟨#[66,111,111,108]⟩,.int .i64 0,.slice (some ⟨w.heap.size,0,none⟩) 2 2,.string ⟨#[76,105,115,116]⟩,.int .i64 1,.slice (some ⟨a.heap.size+1,0,none⟩) 2 2] 186)=W at b c |-;clear t;have d:=bQ (cY j.o A.o) b (by have:=(gE A.o).1;have:=j.o.size;omega);have Q:=hI (show _/\_/\_ from⟨b,c,d⟩);have R:=hI (ag C.o b lR);clear b c d;go_ret;refine⟨_,rfl,R.o,λV f=> ?_⟩;obtain⟨b,c,d⟩:=Q.o;have Gi:=P.o;have S:=s.o;have hz:=(gE c.2.2).1;have T:=f.1;have NW:w.heap.size<=a.heap.size:=C.o.size;have U:StW k a V:=⟨ai b.size f.1,λq o hq X=>f.2 q o (by omega) (cY b X)⟩;obtain⟨k',Y,m⟩:=D.o V U;cases Y;obtain⟨E,Z,u⟩:=m;have G:=f.2 _ _ lR d;have x:=f.2 _ _ (by omega) c.1;have y:=f.2 _ _ (by omega) c.2.1;have z:=f.2 _ _ (by omega) c.2.2;refine⟨_,qy (n:=2) (sz:=3) (cells:=[.string ⟨#[66,111,111,108]⟩,.int .i64 0,.slice (some ⟨w.heap.size,0,none⟩) 2 2,.string ⟨#[76,105,115,116]⟩,.int .i64 1,.slice (some ⟨a.heap.size+1,0,none⟩) 2 2]) z (by omega) rfl (by decide),λi hi=> ?_⟩
 match i,hi with
 |0,_=>
  refine⟨rfl,rfl,⟨_,qy (n:=2) (sz:=1) (cells:=[.slice none 0 0,.slice none 0 0]) G (gE G).1 rfl (by decide),λi hi=> ?_⟩,by decide⟩
  match i,hi with
  |0,_=>exact gu _ _
  |1,_=>exact gu _ _
  |i+2,h=>exact ay h (by show ¬i+2<2;omega)
 |1,_=>
  refine⟨rfl,rfl,⟨_,qy (n:=2) (sz:=1) (cells:=[.slice none 0 0,.slice (some ⟨a.heap.size,0,none⟩) 2 2]) y (by omega) rfl (by decide),λi hi=> ?_⟩,by decide⟩
  match i,hi with
  |0,_=>exact gu _ _
  |1,_=>
   obtain⟨c0,b,c⟩:=gu V V.heap.size;exact FL (F:=Fo.of [⟨1,0,.nil⟩,⟨4,1,Fo.of [⟨1,0,.nil⟩]⟩]) (cells:=[.int .i64 1,.int .i64 0,.slice none 0 0,.int .i64 4,.int .i64 1,.slice a4 (Fo.of [⟨1,0,.nil⟩]).len c4]) x (by omega) rfl (by decide:0<2) (by decide:2<=1000) ⟨rfl,rfl,⟨c0,b,c⟩,rfl,rfl,⟨E,Z,u⟩,trivial⟩
  |i+2,h=>exact ay h (by show ¬i+2<2;omega)
 |i+2,h=>exact ay h (by show ¬i+2<2;omega)
def M7:List sr:=[⟨⟨#[70,97,108,115,101]⟩,0⟩,⟨⟨#[84,114,117,101]⟩,0⟩,⟨⟨#[78,105,108]⟩,0⟩,⟨⟨#[67,111,110,115]⟩,2⟩]
abbrev agI:Oper:=⟨some 13,.call ⟨.value (.func 64),#[],#[]⟩,22,eK,#[],none⟩
abbrev agJ:Oper:=⟨some 14,.load 39 (.tmp 5),39,eK,#[],none⟩
abbrev agK:Oper:=⟨some 15,.move (.tmp 1),40,eK,#[],none⟩
abbrev agL:Oper:=⟨some 16,.build 42 #[(0,.tmp 14),(1,.tmp 15)],42,eK,#[aj 1,aj 2],none⟩
abbrev agM:Oper:=⟨some 17,.build 50 #[(0,.tmp 13),(1,.tmp 16)],50,eK,#[aj 0,aj 3],none⟩
abbrev agN:Oper:=⟨none,.store 50 (.tmp 4) (.tmp 17),0,eK,#[aj 4,ao 0,al 0,al 1,al 2,al 3,al 4],none⟩
def Rr:Array Oper:= #[agI,agJ,agK,agL,agM,agN]
theorem Cy(bj:List sr)(rules:List oN)(fv rv:Value)(w:World)(B:Nat)(y:gD w B fv bj)(z:j4 w B rv rules)(hB:B<=w.heap.size):
 Calls Tryz.prog 136 #[fv,rv] w λe w'=>∃v,e=.returned v/\Below w.heap.size w w'/\∀U,StW w w' U->gD U U.heap.size fv bj->j4 U U.heap.size rv rules->jM U U.heap.size v ⟨j3,⟨⟨M7,bj⟩,rules⟩⟩:=by
 obtain⟨a,b,rfl⟩:=y.slice;obtain⟨c,rc,rfl⟩:=z.slice;clear y z hB;obtain⟨m,k,r,G⟩:=UQ w (.cells #[.slice none 0 0,.slice none 0 0,.slice none 0 0,.slice none 0 0] 50) (.cells #[.string ⟨#[70,97,108,115,101]⟩,.int .i64 0,.string ⟨#[84,114,117,101]⟩,.int .i64 0,.string ⟨#[78,105,108]⟩,.int .i64 0,.string ⟨#[67,111,110,115]⟩,.int .i64 2] 163) (.cells #[.slice (some ⟨w.heap.size+1,0,none⟩) 4 4,.slice a bj.length b] 39);obtain⟨I,l,J⟩:=h_3 r G k;have c0:=cZ G.2.2;have c1:=eY G.2.2;have L:=af c0;clear r G k
 go_enter Tryz.func136,Tryz.ntmps136
 go_upto_region 2 with fail
 rw[<-J.o];refine ff (S:=λV=>V.cell? ⟨w.heap.size+1+1,0,none⟩=some (.slice (some ⟨w.heap.size+1,0,none⟩) 4 4)/\V.cell? ⟨w.heap.size+1+1,1,none⟩=some (.slice a bj.length b)) 5 (by kernel_rfl) (by decide) (⟨c0,c1⟩) (λhHeld=> ?_)
 change mI _ _ Rr _ _ _ _ _ _ _ _
 refine oD (λZ=>Below m.heap.size m Z) (Below.ia bR) hHeld ?_;clear hHeld;rintro V x hHeld;refine qH 1 ⟨some 14,.load 39 (.tmp 5),39,eK,#[],none⟩ hHeld ?_;refine qH 2 ⟨some 15,.move (.tmp 1),40,eK,#[],none⟩ hHeld ?_;refine qH 3 ⟨some 16,.build 42 #[(0,.tmp 14),(1,.tmp 15)],42,eK,#[aj 1,aj 2],none⟩ hHeld ?_;have A:=hI (FM V);have C:=hI x;clear x c0 c1 L;refine qO 0 ⟨some 13,.call ⟨.value (.func 64),#[],#[]⟩,22,eK,#[],none⟩ λK D=> ?_;go_simp;refine A.o.mono ?_;rintro e d ⟨vd,rfl,E,r⟩;obtain⟨f,dc,rfl⟩:=(r d ⟨lR,λ_ _ _ h=>h⟩).slice;have g:=hI C.o.size;have k:=ag C.o E lR;have G:=cY k l.o.1;have F:=cY k l.o.2.1;have s:=cY k l.o.2.2;have H:d.cell? ⟨w.heap.size+1+1,0,none⟩=some (.slice (some ⟨w.heap.size+1,0,none⟩) 4 4)/\d.cell? ⟨w.heap.size+1+1,1,none⟩=some (.slice a bj.length b):=⟨by rw[cell_of_row _ _ _ _ _ _ s];rfl,by rw[cell_of_row _ _ _ _ _ _ s];rfl⟩;obtain⟨M,N,t,u⟩:=h_4 H r (show _/\_ from⟨G,F⟩) (ag I.o k lR);clear E r k G F s H hHeld A;refine qK D (M.o) λhHeld=> ?_;clear D K;refine qH 4 ⟨some 17,.build 50 #[(0,.tmp 13),(1,.tmp 16)],50,eK,#[aj 0,aj 3],none⟩ hHeld ?_;refine jQ (by kernel_rfl) ?_
 change wpList _ Rr _ [⟨none,.store 50 (.tmp 4) (.tmp 17),0,eK,#[aj 4,ao 0,al 0,al 1,al 2,al 3,al 4],none⟩] _ _
 clear hHeld;have G:=t.o.1;have F:=cZ G;have s1:=eY G;have s2:=fu G;have s3:=xk G;have fz:∀j,d.frozen? ⟨w.heap.size,j,none⟩=false:=λj=>by simp[World.frozen?,G]
 have zs:=af F;clear G;go_wp2;have H:=cz (o:=0) (v:=.slice f j3.length dc) t.o.1;have L:=cz (o:=1) (v:=.slice (some ⟨w.heap.size+1,0,none⟩) 4 4) H;have O:=cz (o:=2) (v:=.slice a bj.length b) L;have A:=cz (o:=3) (v:=.slice c rules.length rc) O;have r:∀(q:Nat),q≠w.heap.size->((((d.setCell ⟨w.heap.size,0,none⟩ (.slice f j3.length dc)).setCell ⟨w.heap.size,1,none⟩ (.slice (some ⟨w.heap.size+1,0,none⟩) 4 4)).setCell ⟨w.heap.size,2,none⟩ (.slice a bj.length b)).setCell ⟨w.heap.size,3,none⟩ (.slice c rules.length rc)).heap[q]? =d.heap[q]? :=λq hq=>by
  exact anX
 have D:((((d.setCell ⟨w.heap.size,0,none⟩ (.slice f j3.length dc)).setCell ⟨w.heap.size,1,none⟩ (.slice (some ⟨w.heap.size+1,0,none⟩) 4 4)).setCell ⟨w.heap.size,2,none⟩ (.slice a bj.length b)).setCell ⟨w.heap.size,3,none⟩ (.slice c rules.length rc)).heap.size=d.heap.size:=by simp[World.setCell]
 have E:=Below.setCell (Below.setCell (Below.setCell (Below.setCell u.o (p:=⟨w.heap.size,0,none⟩) lR (.slice f j3.length dc)) (p:=⟨w.heap.size,1,none⟩) lR (.slice (some ⟨w.heap.size+1,0,none⟩) 4 4)) (p:=⟨w.heap.size,2,none⟩) lR (.slice a bj.length b)) (p:=⟨w.heap.size,3,none⟩) lR (.slice c rules.length rc);generalize (((d.setCell ⟨w.heap.size,0,none⟩ (.slice f j3.length dc)).setCell ⟨w.heap.size,1,none⟩ (.slice (some ⟨w.heap.size+1,0,none⟩) 4 4)).setCell ⟨w.heap.size,2,none⟩ (.slice a bj.length b)).setCell ⟨w.heap.size,3,none⟩ (.slice c rules.length rc)=W at A r D E |-;have k:W.heap[w.heap.size]? =some (.cells #[.slice f j3.length dc,.slice (some ⟨w.heap.size+1,0,none⟩) 4 4,.slice a bj.length b,.slice c rules.length rc] 50 (0,0)):=by simpa using A
 have P:w.heap.size<m.heap.size:=(gE l.o.1).1;have Q:W.heap[w.heap.size+1]? =_:=(r _ (by omega)).trans t.o.2;have R:∀U,StW w W U->gD U U.heap.size (.slice a bj.length b) bj->j4 U U.heap.size (.slice c rules.length rc) rules->jM U U.heap.size (.agg #[.slice f j3.length dc,.slice (some ⟨w.heap.size+1,0,none⟩) 4 4,.slice a bj.length b,.slice c rules.length rc]) ⟨j3,⟨⟨M7,bj⟩,rules⟩⟩:=λU s T X=>by
  have x:=N.o U ⟨by rw[<-D];exact s.1,λq o hq Y=>s.2 q o (by have:=g.o;omega) ((r q (by have:=g.o;omega)).trans Y)⟩;have G:=s.2 _ _ (Nat.le_succ _) Q;have Dj:gD U U.heap.size (.slice (some ⟨w.heap.size+1,0,none⟩) 4 4) M7:=by
   refine⟨_,qy (n:=4) (sz:=2) (cells:=[.string ⟨#[70,97,108,115,101]⟩,.int .i64 0,.string ⟨#[84,114,117,101]⟩,.int .i64 0,.string ⟨#[78,105,108]⟩,.int .i64 0,.string ⟨#[67,111,110,115]⟩,.int .i64 2]) G (gE G).1 rfl (by decide),λi hi=> ?_⟩
   match i,hi with
   |0,_=>exact⟨rfl,rfl,by decide⟩
   |1,_=>exact⟨rfl,rfl,by decide⟩
   |2,_=>exact⟨rfl,rfl,by decide⟩
   |3,_=>exact⟨rfl,rfl,by decide⟩
   |i+4,h=>exact ay h (by show ¬i+4<4;omega)
  exact⟨_,_,_,_,rfl,x,Dj,T,X⟩
 have G:=cZ k;have r1:=eY k;have r2:=fu k;have x:=xk k;refine bodyPost_ret (v:=.agg #[.slice f j3.length dc,.slice (some ⟨w.heap.size+1,0,none⟩) 4 4,.slice a bj.length b,.slice c rules.length rc]) (by simp[results,Tryz.results136,go_sem,G,r1,r2,x]) rfl ?_;exact⟨_,rfl,E,R⟩
theorem l5(o':Obj){q:Nat}{o:Obj}(h:w.heap[q]? =some o):(w.alloc o').heap[q]? =some o:=cY (Below.cA w o') h
def tx(n:Int):Nd:=⟨1,n,.nil⟩
def tcn(n:Int)(l:List Nd):Nd:=⟨3,n,Fo.of l⟩
def tfn(n:Int)(l:List Nd):Nd:=⟨4,n,Fo.of l⟩
theorem rG{U:World}{a c a2 d:Int}{e f:Value}{g i:Fo}(h:U.heap[b]? =some (.cells #[.int .i64 a,.int .i64 c,e,.int .i64 a2,.int .i64 d,f] T (0,0)))(j:dr U U.heap.size e g)(k:dr U U.heap.size f i):dr U U.heap.size (.slice (some ⟨b,0,none⟩) 2 2) (Fo.of [⟨a,c,g⟩,⟨a2,d,i⟩]):=by
 obtain⟨c1,r1,f1⟩:=j;obtain⟨c2,r2,f2⟩:=k;exact FL (F:=Fo.of [⟨a,c,g⟩,⟨a2,d,i⟩]) (cells:=[.int .i64 a,.int .i64 c,e,.int .i64 a2,.int .i64 d,f]) h (gE h).1 rfl (by decide:0<2) (by decide:2<=1000) ⟨rfl,rfl,⟨c1,r1,f1⟩,rfl,rfl,⟨c2,r2,f2⟩,trivial⟩
theorem YO{U:World}{r1 r2:oN}{a c d e:Value}(h:U.heap[b]? =some (.cells #[.int .i64 r1.fn,a,.int .i64 r1.rhs.a,.int .i64 r1.rhs.n,c,.int .i64 r1.vars,.int .i64 r2.fn,d,.int .i64 r2.rhs.a,.int .i64 r2.rhs.n,e,.int .i64 r2.vars] T (0,0)))
 (f:dr U U.heap.size a r1.bT) (g:dr U U.heap.size c r1.rhs.k) (j:dr U U.heap.size d r2.bT) (k:dr U U.heap.size e r2.rhs.k):j4 U U.heap.size (.slice (some ⟨b,0,none⟩) 2 2) [r1,r2]:=by
 refine⟨_,qy (n:=2) (sz:=6) (cells:=[.int .i64 r1.fn,a,.int .i64 r1.rhs.a,.int .i64 r1.rhs.n,c,.int .i64 r1.vars,.int .i64 r2.fn,d,.int .i64 r2.rhs.a,.int .i64 r2.rhs.n,e,.int .i64 r2.vars]) h (gE h).1 rfl (by decide),λi hi=> ?_⟩
 match i,hi with
 |0,_=>exact⟨rfl,f,rfl,rfl,g,rfl⟩
 |1,_=>exact⟨rfl,j,rfl,rfl,k,rfl⟩
 |i+2,h=>exact ay h (by show ¬i+2<2;omega)
def JZ:oN:=⟨0,Fo.of [tcn 2 [],tx 0],tx 0,1⟩
def J0:oN:=⟨0,Fo.of [tcn 3 [tx 0,tx 1],tx 2],tcn 3 [tx 0,tfn 0 [tx 1,tx 2]],3⟩
def agO:List sr:=[⟨⟨#[97,112,112]⟩,2⟩]
def tL:Md:=⟨j3,⟨⟨M7,agO⟩,[JZ,J0]⟩⟩
theorem yS(w:World):Calls Tryz.prog 66 #[] w λe w'=>∃v,e=.returned v/\Below w.heap.size w w'/\jM w' w'.heap.size v tL:=by
 obtain⟨w0,G,D,f⟩:=UP w (.cells #[.slice none 0 0,.slice none 0 0,.slice none 0 0,.slice none 0 0] 50) (.cells #[.string ⟨#[97,112,112]⟩,.int .i64 2] 163);obtain⟨F,H,ir⟩:=h_3 f G D;clear f G D
 go_enter Tryz.func66,Tryz.ntmps66
 go_wp2_with fail
 rw[<-H.o];refine(vQ 2 none 0 0 w0).mono ?_;rintro e w1 ⟨rfl,G⟩;have H1:=hI G;clear G
 go_wp2_with fail
 refine(oL 0 _).mono ?_;rintro e b ⟨rfl,G⟩;have I:=hI G;clear G
 go_wp2_with fail
 refine(wL _ _).mono ?_;rintro e wp ⟨rfl,f⟩;rw[f];clear f wp
 go_wp2_with fail
 refine(oL 0 _).mono ?_;rintro e w3 ⟨rfl,G⟩;have J:=hI G;clear G
 go_wp2_with fail
 refine(oL 0 _).mono ?_;rintro e w4 ⟨rfl,G⟩;have K:=hI G;clear G
 go_wp2_with fail
 refine(oL 1 _).mono ?_;rintro e m ⟨rfl,G⟩;have L:=hI G;clear G
 go_wp2_with fail
 refine(vQ 3 _ 2 2 _).mono ?_;rintro e w6 ⟨rfl,G⟩;have M:=hI G;clear G
 go_wp2_with fail
 refine(oL 2 _).mono ?_;rintro e d ⟨rfl,G⟩;have N:=hI G;clear G
 go_wp2_with fail
 refine(wL _ _).mono ?_;rintro e wp ⟨rfl,f⟩;rw[f];clear f wp
 go_wp2_with fail
 refine(oL 0 _).mono ?_;rintro e w8 ⟨rfl,G⟩;have O:=hI G;clear G
 go_wp2_with fail
 refine(oL 1 _).mono ?_;rintro e w9 ⟨rfl,G⟩;have P:=hI G;clear G
 go_wp2_with fail
 refine(oL 2 _).mono ?_;rintro e r ⟨rfl,G⟩;have s:=hI G;clear G
 go_wp2_with fail
 refine(vR 0 _ 2 2 _).mono ?_;rintro e f ⟨rfl,G⟩;have t:=hI G;clear G
 go_wp2_with fail
 refine(vQ 3 _ 2 2 _).mono ?_;rintro e E ⟨rfl,G⟩;have u:=hI G;clear G
 go_wp2_with fail
 have t1:∀{q:Nat} {o:Obj},w0.heap[q]? =some o->b.heap[q]? =some o:=λh=>cY I.o (cY H1.o h);have t2:∀{q:Nat} {o:Obj},(b.alloc (.cells #[.int .i64 3,.int .i64 2,.slice none 0 0,.int .i64 1,.int .i64 0,.slice none 0 0] 54)).heap[q]? =some o->m.heap[q]? =some o:=λh=>cY L.o (cY K.o (cY J.o h));have t3:∀{q:Nat} {o:Obj},(m.alloc (.cells #[.int .i64 1,.int .i64 0,.slice none 0 0,.int .i64 1,.int .i64 1,.slice none 0 0] 54)).heap[q]? =some o->d.heap[q]? =some o:=λh=>cY N.o (cY M.o h);have t4:∀{q:Nat} {o:Obj},(d.alloc (.cells #[.int .i64 3,.int .i64 3,.slice (some ⟨m.heap.size,0,none⟩) 2 2,.int .i64 1,.int .i64 2,.slice none 0 0] 54)).heap[q]? =some o->r.heap[q]? =some o:=λh=>cY s.o (cY P.o (cY O.o h));have t5:∀{q:Nat} {o:Obj},(r.alloc (.cells #[.int .i64 1,.int .i64 1,.slice none 0 0,.int .i64 1,.int .i64 2,.slice none 0 0] 54)).heap[q]? =some o->f.heap[q]? =some o:=λh=>cY t.o h;have t6:∀{q:Nat} {o:Obj},(f.alloc (.cells #[.int .i64 1,.int .i64 0,.slice none 0 0,.int .i64 4,.int .i64 0,.slice (some ⟨r.heap.size,0,none⟩) 2 2] 54)).heap[q]? =some o->E.heap[q]? =some o:=λh=>cY u.o h;have g6:=a_ E (.cells #[.int .i64 0,.slice (some ⟨b.heap.size,0,none⟩) 2 2,.int .i64 1,.int .i64 0,.slice none 0 0,.int .i64 1,.int .i64 0,.slice (some ⟨d.heap.size,0,none⟩) 2 2,.int .i64 3,.int .i64 3,.slice (some ⟨f.heap.size,0,none⟩) 2 2,.int .i64 3] 139);have g5:=l5 (.cells #[.int .i64 0,.slice (some ⟨b.heap.size,0,none⟩) 2 2,.int .i64 1,.int .i64 0,.slice none 0 0,.int .i64 1,.int .i64 0,.slice (some ⟨d.heap.size,0,none⟩) 2 2,.int .i64 3,.int .i64 3,.slice (some ⟨f.heap.size,0,none⟩) 2 2,.int .i64 3] 139) (t6 (a_ f _));have g4:=l5 (.cells #[.int .i64 0,.slice (some ⟨b.heap.size,0,none⟩) 2 2,.int .i64 1,.int .i64 0,.slice none 0 0,.int .i64 1,.int .i64 0,.slice (some ⟨d.heap.size,0,none⟩) 2 2,.int .i64 3,.int .i64 3,.slice (some ⟨f.heap.size,0,none⟩) 2 2,.int .i64 3] 139) (t6 (l5 _ (t5 (a_ r _))));have g3:=l5 (.cells #[.int .i64 0,.slice (some ⟨b.heap.size,0,none⟩) 2 2,.int .i64 1,.int .i64 0,.slice none 0 0,.int .i64 1,.int .i64 0,.slice (some ⟨d.heap.size,0,none⟩) 2 2,.int .i64 3,.int .i64 3,.slice (some ⟨f.heap.size,0,none⟩) 2 2,.int .i64 3] 139) (t6 (l5 _ (t5 (l5 _ (t4 (a_ d _))))));have g2:=l5 (.cells #[.int .i64 0,.slice (some ⟨b.heap.size,0,none⟩) 2 2,.int .i64 1,.int .i64 0,.slice none 0 0,.int .i64 1,.int .i64 0,.slice (some ⟨d.heap.size,0,none⟩) 2 2,.int .i64 3,.int .i64 3,.slice (some ⟨f.heap.size,0,none⟩) 2 2,.int .i64 3] 139) (t6 (l5 _ (t5 (l5 _ (t4 (l5 _ (t3 (a_ m _))))))));have g1:=l5 (.cells #[.int .i64 0,.slice (some ⟨b.heap.size,0,none⟩) 2 2,.int .i64 1,.int .i64 0,.slice none 0 0,.int .i64 1,.int .i64 0,.slice (some ⟨d.heap.size,0,none⟩) 2 2,.int .i64 3,.int .i64 3,.slice (some ⟨f.heap.size,0,none⟩) 2 2,.int .i64 3] 139) (t6 (l5 _ (t5 (l5 _ (t4 (l5 _ (t3 (l5 _ (t2 (a_ b _))))))))));have gf:=l5 (.cells #[.int .i64 0,.slice (some ⟨b.heap.size,0,none⟩) 2 2,.int .i64 1,.int .i64 0,.slice none 0 0,.int .i64 1,.int .i64 0,.slice (some ⟨d.heap.size,0,none⟩) 2 2,.int .i64 3,.int .i64 3,.slice (some ⟨f.heap.size,0,none⟩) 2 2,.int .i64 3] 139) (t6 (l5 _ (t5 (l5 _ (t4 (l5 _ (t3 (l5 _ (t2 (l5 _ (t1 F.o.2)))))))))));have gr:=l5 (.cells #[.int .i64 0,.slice (some ⟨b.heap.size,0,none⟩) 2 2,.int .i64 1,.int .i64 0,.slice none 0 0,.int .i64 1,.int .i64 0,.slice (some ⟨d.heap.size,0,none⟩) 2 2,.int .i64 3,.int .i64 3,.slice (some ⟨f.heap.size,0,none⟩) 2 2,.int .i64 3] 139) (t6 (l5 _ (t5 (l5 _ (t4 (l5 _ (t3 (l5 _ (t2 (l5 _ (t1 F.o.1)))))))))));clear t1 t2 t3 t4 t5 t6;have z0:w0.heap.size=w.heap.size+2:=by rw[H.o];simp
 have z2:w.heap.size+1<=b.heap.size:=by have:=H1.o.size;have:=I.o.size;omega
 have z5:b.heap.size<=m.heap.size:=by have g:=J.o.size;have:=K.o.size;have:=L.o.size;simp at g;omega
 have z7:m.heap.size<=d.heap.size:=by have g:=M.o.size;have:=N.o.size;simp at g;omega
 have C:d.heap.size<=r.heap.size:=by have g:=O.o.size;have:=P.o.size;have:=s.o.size;simp at g;omega
 have D:r.heap.size<=f.heap.size:=by have g:=t.o.size;simp at g;omega
 have z12:f.heap.size<=E.heap.size:=by have g:=u.o.size;simp at g;omega
 have V:Below w.heap.size w (E.alloc (.cells #[.int .i64 0,.slice (some ⟨b.heap.size,0,none⟩) 2 2,.int .i64 1,.int .i64 0,.slice none 0 0,.int .i64 1,.int .i64 0,.slice (some ⟨d.heap.size,0,none⟩) 2 2,.int .i64 3,.int .i64 3,.slice (some ⟨f.heap.size,0,none⟩) 2 2,.int .i64 3] 139)):=by
  have G:∀(k:Nat) (W:World) (o:Obj),w.heap.size<=W.heap.size->Below w.heap.size w W->Below w.heap.size w (W.alloc o):=λ_ W o _ h=>ag h (Below.cA W o) lR;have s2:=ag (ag ir.o H1.o lR) I.o lR;have z:=ag (ag (ag (G 0 _ (.cells #[.int .i64 3,.int .i64 2,.slice none 0 0,.int .i64 1,.int .i64 0,.slice none 0 0] 54) s2.size s2) J.o lR) K.o lR) L.o lR;have B:=ag (ag (G 0 _ (.cells #[.int .i64 1,.int .i64 0,.slice none 0 0,.int .i64 1,.int .i64 1,.slice none 0 0] 54) z.size z) M.o lR) N.o lR;have l:=ag (ag (ag (G 0 _ (.cells #[.int .i64 3,.int .i64 3,.slice (some ⟨m.heap.size,0,none⟩) 2 2,.int .i64 1,.int .i64 2,.slice none 0 0] 54) B.size B) O.o lR) P.o lR) s.o lR;have x:=ag (G 0 _ (.cells #[.int .i64 1,.int .i64 1,.slice none 0 0,.int .i64 1,.int .i64 2,.slice none 0 0] 54) l.size l) t.o lR;have y:=ag (G 0 _ (.cells #[.int .i64 1,.int .i64 0,.slice none 0 0,.int .i64 4,.int .i64 0,.slice (some ⟨r.heap.size,0,none⟩) 2 2] 54) x.size x) u.o lR;exact G 0 _ _ y.size y
 generalize E.alloc (.cells #[.int .i64 0,.slice (some ⟨b.heap.size,0,none⟩) 2 2,.int .i64 1,.int .i64 0,.slice none 0 0,.int .i64 1,.int .i64 0,.slice (some ⟨d.heap.size,0,none⟩) 2 2,.int .i64 3,.int .i64 3,.slice (some ⟨f.heap.size,0,none⟩) 2 2,.int .i64 3] 139)=A at*;have Q:∀U:World,(∀(q:Nat) (o:Obj),w.heap.size+1<=q->A.heap[q]? =some o->U.heap[q]? =some o)->gD U U.heap.size (.slice (some ⟨w.heap.size+1,0,none⟩) 1 1) agO/\j4 U U.heap.size (.slice (some ⟨E.heap.size,0,none⟩) 2 2) [JZ,J0]:=λU x=>by
  have z:=x _ _ (by omega) g1;have B:=x _ _ (by omega) g2;have l:=x _ _ (by omega) g3;have y:=x _ _ (by omega) g4;have S:=x _ _ (by omega) g5;have T:=x _ _ (by omega) g6;have G:=x _ _ lR gf;have X:=rG z (gu U _) (gu U _);have R:=rG B (gu U _) (gu U _);have Y:=rG l R (gu U _);have Z:=rG y (gu U _) (gu U _);have p5:=rG S (gu U _) Z;refine⟨⟨_,qy (n:=1) (sz:=2) (cells:=[.string ⟨#[97,112,112]⟩,.int .i64 2]) G (gE G).1 rfl (by decide),λi hi=> ?_⟩,YO (r1:=JZ) (r2:=J0) T X (gu U _) Y p5⟩
  match i,hi with
  |0,_=>exact⟨rfl,rfl,by decide⟩
  |i+1,h=>exact ay h (by show ¬i+1<1;omega)
 obtain⟨z,B⟩:=Q A λ_ _ _ h=>h;obtain⟨X,Y,Z,R⟩:=h_4 (Cy agO [JZ,J0] _ _ A A.heap.size z B lR) Q gr V;clear g1 g2 g3 g4 g5 g6 gf gr Q z B V z0 z2 z5 z7 C D z12;refine X.o.mono ?_;rintro e l ⟨v13,rfl,S,T⟩;have G:∀(q:Nat) (o:Obj),A.heap[q]? =some o->l.heap[q]? =some o:=λq o h=>cY S h;obtain⟨YQ,YR⟩:=Y.o l λq o _ h=>G q o h;obtain⟨dv,cv,fv,rv,rfl,m1,m2,m3,m4⟩:=T l ⟨lR,λ_ _ _ h=>h⟩ YQ YR;have fG:=hI T;have CV:=hI G;obtain⟨d1,y,c1,rfl⟩:∃a n c,dv=.slice a n c:=by obtain⟨a,c,h⟩:=m1.slice;exact⟨a,_,c,h⟩
 obtain⟨d2,z,c2,rfl⟩:∃a n c,cv=.slice a n c:=by obtain⟨a,c,h⟩:=m2.slice;exact⟨a,_,c,h⟩
 obtain⟨d3,B,c3,rfl⟩:∃a n c,fv=.slice a n c:=by obtain⟨a,c,h⟩:=m3.slice;exact⟨a,_,c,h⟩
 obtain⟨d4,C,c4,rfl⟩:∃a n c,rv=.slice a n c:=by obtain⟨a,c,h⟩:=m4.slice;exact⟨a,_,c,h⟩
 have D:=G _ _ Z.o;obtain⟨yx,RL,J7⟩:=h_3 (ag R.o S lR) (show w.heap.size<A.heap.size from(gE Z.o).1) D;clear m1 m2 m3 m4 T G YQ YR S X;have s0:=cZ D;have s1:=eY D;have s2:=fu D;have s3:=xk D;have fz:∀j,l.frozen? ⟨w.heap.size,j,none⟩=false:=λj=>by simp[World.frozen?,D]
 have zs:=af s0;clear D;go_wp2;have e1:=cz (o:=0) (v:=.slice d1 y c1) J7.o;have e2:=cz (o:=1) (v:=.slice d2 z c2) e1;have e3:=cz (o:=2) (v:=.slice d3 B c3) e2;have V:=cz (o:=3) (v:=.slice d4 C c4) e3;have Q:∀(q:Nat),q≠w.heap.size->((((l.setCell ⟨w.heap.size,0,none⟩ (.slice d1 y c1)).setCell ⟨w.heap.size,1,none⟩ (.slice d2 z c2)).setCell ⟨w.heap.size,2,none⟩ (.slice d3 B c3)).setCell ⟨w.heap.size,3,none⟩ (.slice d4 C c4)).heap[q]? =l.heap[q]? :=λq hq=>by
  exact anX
 have X:((((l.setCell ⟨w.heap.size,0,none⟩ (.slice d1 y c1)).setCell ⟨w.heap.size,1,none⟩ (.slice d2 z c2)).setCell ⟨w.heap.size,2,none⟩ (.slice d3 B c3)).setCell ⟨w.heap.size,3,none⟩ (.slice d4 C c4)).heap.size=l.heap.size:=by simp[World.setCell]
 have ep:=Below.setCell (Below.setCell (Below.setCell (Below.setCell yx.o (p:=⟨w.heap.size,0,none⟩) lR (.slice d1 y c1)) (p:=⟨w.heap.size,1,none⟩) lR (.slice d2 z c2)) (p:=⟨w.heap.size,2,none⟩) lR (.slice d3 B c3)) (p:=⟨w.heap.size,3,none⟩) lR (.slice d4 C c4);generalize ((((l.setCell ⟨w.heap.size,0,none⟩ (.slice d1 y c1)).setCell ⟨w.heap.size,1,none⟩ (.slice d2 z c2)).setCell ⟨w.heap.size,2,none⟩ (.slice d3 B c3)).setCell ⟨w.heap.size,3,none⟩ (.slice d4 C c4))=W at V Q X ep |-;have G:W.heap[w.heap.size]? =some (.cells #[.slice d1 y c1,.slice d2 z c2,.slice d3 B c3,.slice d4 C c4] 50 (0,0)):=by simpa using V
 obtain⟨D,S⟩:=Y.o W λq o hq T=>(Q q (by omega)).trans (CV.o q o T);have Bu:=fG.o W ⟨by rw[X];exact lR,λq o hq T=>(Q q (by have:=RL.o;omega)).trans T⟩ D S;have r0:=cZ G;have r1:=eY G;have r2:=fu G;have r3:=xk G;refine bodyPost_ret (v:=.agg #[.slice d1 y c1,.slice d2 z c2,.slice d3 B c3,.slice d4 C c4]) (by simp[results,Tryz.results66,go_sem,r0,r1,r2,r3]) rfl ?_;exact⟨_,rfl,ep,Bu⟩
def ab4:oN:=⟨0,Fo.of [tx 0,tx 1],tfn 1 [tx 1,tx 0],2⟩
def ab5:oN:=⟨1,Fo.of [tx 0,tx 1],tfn 0 [tx 1,tx 0],2⟩
def kFG:List sr:=[⟨⟨#[102]⟩,2⟩,⟨⟨#[103]⟩,2⟩]
def yT:Md:=⟨j3,⟨⟨M7,kFG⟩,[ab4,ab5]⟩⟩
theorem FN(w:World):Calls Tryz.prog 67 #[] w λe w'=>∃v,e=.returned v/\Below w.heap.size w w'/\jM w' w'.heap.size v yT:=by
 obtain⟨w0,G,s,x⟩:=UP w (.cells #[.slice none 0 0,.slice none 0 0,.slice none 0 0,.slice none 0 0] 50) (.cells #[.string ⟨#[102]⟩,.int .i64 2,.string ⟨#[103]⟩,.int .i64 2] 163);obtain⟨B,C,ir⟩:=h_3 x G s;clear x G s
 go_enter Tryz.func67,Tryz.ntmps67
 go_wp2_with fail
 rw[<-C.o];refine(oL 0 w0).mono ?_;rintro e w1 ⟨rfl,G⟩;have H1:=hI G;clear G
 go_wp2_with fail
 refine(oL 1 _).mono ?_;rintro e b ⟨rfl,G⟩;have D:=hI G;clear G
 go_wp2_with fail
 refine(wL _ _).mono ?_;rintro e wp ⟨rfl,g⟩;rw[g];clear g wp
 go_wp2_with fail
 refine(oL 1 _).mono ?_;rintro e w3 ⟨rfl,G⟩;have E:=hI G;clear G
 go_wp2_with fail
 refine(oL 0 _).mono ?_;rintro e d ⟨rfl,G⟩;have F:=hI G;clear G
 go_wp2_with fail
 refine(vR 1 _ 2 2 _).mono ?_;rintro e w5 ⟨rfl,G⟩;have H:=hI G;clear G
 go_wp2_with fail
 refine(oL 0 _).mono ?_;rintro e w6 ⟨rfl,G⟩;have I:=hI G;clear G
 go_wp2_with fail
 refine(oL 1 _).mono ?_;rintro e f ⟨rfl,G⟩;have J:=hI G;clear G
 go_wp2_with fail
 refine(wL _ _).mono ?_;rintro e wp ⟨rfl,g⟩;rw[g];clear g wp
 go_wp2_with fail
 refine(oL 1 _).mono ?_;rintro e w8 ⟨rfl,G⟩;have K:=hI G;clear G
 go_wp2_with fail
 refine(oL 0 _).mono ?_;rintro e g ⟨rfl,G⟩;have L:=hI G;clear G
 go_wp2_with fail
 refine(vR 0 _ 2 2 _).mono ?_;rintro e y ⟨rfl,G⟩;have l:=hI G;clear G
 go_wp2_with fail
 have t1:∀{q:Nat} {o:Obj},w0.heap[q]? =some o->b.heap[q]? =some o:=λh=>cY D.o (cY H1.o h);have t2:∀{q:Nat} {o:Obj},(b.alloc (.cells #[.int .i64 1,.int .i64 0,.slice none 0 0,.int .i64 1,.int .i64 1,.slice none 0 0] 54)).heap[q]? =some o->d.heap[q]? =some o:=λh=>cY F.o (cY E.o h);have t3:∀{q:Nat} {o:Obj},(d.alloc (.cells #[.int .i64 1,.int .i64 1,.slice none 0 0,.int .i64 1,.int .i64 0,.slice none 0 0] 54)).heap[q]? =some o->f.heap[q]? =some o:=λh=>cY J.o (cY I.o (cY H.o h));have t4:∀{q:Nat} {o:Obj},(f.alloc (.cells #[.int .i64 1,.int .i64 0,.slice none 0 0,.int .i64 1,.int .i64 1,.slice none 0 0] 54)).heap[q]? =some o->g.heap[q]? =some o:=λh=>cY L.o (cY K.o h);have t5:∀{q:Nat} {o:Obj},(g.alloc (.cells #[.int .i64 1,.int .i64 1,.slice none 0 0,.int .i64 1,.int .i64 0,.slice none 0 0] 54)).heap[q]? =some o->y.heap[q]? =some o:=λh=>cY l.o h;have g6:=a_ y (.cells #[.int .i64 0,.slice (some ⟨b.heap.size,0,none⟩) 2 2,.int .i64 4,.int .i64 1,.slice (some ⟨d.heap.size,0,none⟩) 2 2,.int .i64 2,.int .i64 1,.slice (some ⟨f.heap.size,0,none⟩) 2 2,.int .i64 4,.int .i64 0,.slice (some ⟨g.heap.size,0,none⟩) 2 2,.int .i64 2] 139);have g4:=l5 (.cells #[.int .i64 0,.slice (some ⟨b.heap.size,0,none⟩) 2 2,.int .i64 4,.int .i64 1,.slice (some ⟨d.heap.size,0,none⟩) 2 2,.int .i64 2,.int .i64 1,.slice (some ⟨f.heap.size,0,none⟩) 2 2,.int .i64 4,.int .i64 0,.slice (some ⟨g.heap.size,0,none⟩) 2 2,.int .i64 2] 139) (t5 (a_ g _));have g3:=l5 (.cells #[.int .i64 0,.slice (some ⟨b.heap.size,0,none⟩) 2 2,.int .i64 4,.int .i64 1,.slice (some ⟨d.heap.size,0,none⟩) 2 2,.int .i64 2,.int .i64 1,.slice (some ⟨f.heap.size,0,none⟩) 2 2,.int .i64 4,.int .i64 0,.slice (some ⟨g.heap.size,0,none⟩) 2 2,.int .i64 2] 139) (t5 (l5 _ (t4 (a_ f _))));have g2:=l5 (.cells #[.int .i64 0,.slice (some ⟨b.heap.size,0,none⟩) 2 2,.int .i64 4,.int .i64 1,.slice (some ⟨d.heap.size,0,none⟩) 2 2,.int .i64 2,.int .i64 1,.slice (some ⟨f.heap.size,0,none⟩) 2 2,.int .i64 4,.int .i64 0,.slice (some ⟨g.heap.size,0,none⟩) 2 2,.int .i64 2] 139) (t5 (l5 _ (t4 (l5 _ (t3 (a_ d _))))));have g1:=l5 (.cells #[.int .i64 0,.slice (some ⟨b.heap.size,0,none⟩) 2 2,.int .i64 4,.int .i64 1,.slice (some ⟨d.heap.size,0,none⟩) 2 2,.int .i64 2,.int .i64 1,.slice (some ⟨f.heap.size,0,none⟩) 2 2,.int .i64 4,.int .i64 0,.slice (some ⟨g.heap.size,0,none⟩) 2 2,.int .i64 2] 139) (t5 (l5 _ (t4 (l5 _ (t3 (l5 _ (t2 (a_ b _))))))));have gf:=l5 (.cells #[.int .i64 0,.slice (some ⟨b.heap.size,0,none⟩) 2 2,.int .i64 4,.int .i64 1,.slice (some ⟨d.heap.size,0,none⟩) 2 2,.int .i64 2,.int .i64 1,.slice (some ⟨f.heap.size,0,none⟩) 2 2,.int .i64 4,.int .i64 0,.slice (some ⟨g.heap.size,0,none⟩) 2 2,.int .i64 2] 139) (t5 (l5 _ (t4 (l5 _ (t3 (l5 _ (t2 (l5 _ (t1 B.o.2)))))))));have gr:=l5 (.cells #[.int .i64 0,.slice (some ⟨b.heap.size,0,none⟩) 2 2,.int .i64 4,.int .i64 1,.slice (some ⟨d.heap.size,0,none⟩) 2 2,.int .i64 2,.int .i64 1,.slice (some ⟨f.heap.size,0,none⟩) 2 2,.int .i64 4,.int .i64 0,.slice (some ⟨g.heap.size,0,none⟩) 2 2,.int .i64 2] 139) (t5 (l5 _ (t4 (l5 _ (t3 (l5 _ (t2 (l5 _ (t1 B.o.1)))))))));clear t1 t2 t3 t4 t5;have z0:w0.heap.size=w.heap.size+2:=by rw[C.o];simp
 have z2:w.heap.size+1<=b.heap.size:=by have:=H1.o.size;have:=D.o.size;omega
 have z4:b.heap.size<=d.heap.size:=by have m:=E.o.size;have:=F.o.size;simp at m;omega
 have z7:d.heap.size<=f.heap.size:=by have m:=H.o.size;have:=I.o.size;have:=J.o.size;simp at m;omega
 have z9:f.heap.size<=g.heap.size:=by have m:=K.o.size;have:=L.o.size;simp at m;omega
 have u:g.heap.size<=y.heap.size:=by have m:=l.o.size;simp at m;omega
 have P:Below w.heap.size w (y.alloc (.cells #[.int .i64 0,.slice (some ⟨b.heap.size,0,none⟩) 2 2,.int .i64 4,.int .i64 1,.slice (some ⟨d.heap.size,0,none⟩) 2 2,.int .i64 2,.int .i64 1,.slice (some ⟨f.heap.size,0,none⟩) 2 2,.int .i64 4,.int .i64 0,.slice (some ⟨g.heap.size,0,none⟩) 2 2,.int .i64 2] 139)):=by
  have G:∀(W:World) (o:Obj),Below w.heap.size w W->Below w.heap.size w (W.alloc o):=λW o h=>ag h (Below.cA W o) lR;have s2:=ag (ag ir.o H1.o lR) D.o lR;have x:=ag (ag (G _ (.cells #[.int .i64 1,.int .i64 0,.slice none 0 0,.int .i64 1,.int .i64 1,.slice none 0 0] 54) s2) E.o lR) F.o lR;have t:=ag (ag (ag (G _ (.cells #[.int .i64 1,.int .i64 1,.slice none 0 0,.int .i64 1,.int .i64 0,.slice none 0 0] 54) x) H.o lR) I.o lR) J.o lR;have N:=ag (ag (G _ (.cells #[.int .i64 1,.int .i64 0,.slice none 0 0,.int .i64 1,.int .i64 1,.slice none 0 0] 54) t) K.o lR) L.o lR;have s:=ag (G _ (.cells #[.int .i64 1,.int .i64 1,.slice none 0 0,.int .i64 1,.int .i64 0,.slice none 0 0] 54) N) l.o lR;exact G _ _ s
 generalize y.alloc (.cells #[.int .i64 0,.slice (some ⟨b.heap.size,0,none⟩) 2 2,.int .i64 4,.int .i64 1,.slice (some ⟨d.heap.size,0,none⟩) 2 2,.int .i64 2,.int .i64 1,.slice (some ⟨f.heap.size,0,none⟩) 2 2,.int .i64 4,.int .i64 0,.slice (some ⟨g.heap.size,0,none⟩) 2 2,.int .i64 2] 139)=A at*;have x:∀U:World,(∀(q:Nat) (o:Obj),w.heap.size+1<=q->A.heap[q]? =some o->U.heap[q]? =some o)->gD U U.heap.size (.slice (some ⟨w.heap.size+1,0,none⟩) 2 2) kFG/\j4 U U.heap.size (.slice (some ⟨y.heap.size,0,none⟩) 2 2) [ab4,ab5]:=λU z=>by
  have s:=z _ _ (by omega) g1;have t:=z _ _ (by omega) g2;have N:=z _ _ (by omega) g3;have O:=z _ _ (by omega) g4;have Q:=z _ _ (by omega) g6;have G:=z _ _ lR gf;have T:=rG s (gu U _) (gu U _);have V:=rG t (gu U _) (gu U _);have k:=rG N (gu U _) (gu U _);have r:=rG O (gu U _) (gu U _);refine⟨⟨_,qy (n:=2) (sz:=2) (cells:=[.string ⟨#[102]⟩,.int .i64 2,.string ⟨#[103]⟩,.int .i64 2]) G (gE G).1 rfl (by decide),λi hi=> ?_⟩,YO (r1:=ab4) (r2:=ab5) Q T V k r⟩
  match i,hi with
  |0,_=>exact⟨rfl,rfl,by decide⟩
  |1,_=>exact⟨rfl,rfl,by decide⟩
  |i+2,h=>exact ay h (by show ¬i+2<2;omega)
 obtain⟨s,t⟩:=x A λ_ _ _ h=>h;obtain⟨Q,R,S,M⟩:=h_4 (Cy kFG [ab4,ab5] _ _ A A.heap.size s t lR) x gr P;clear g1 g2 g3 g4 g6 gf gr x s t P z0 z2 z4 z7 z9 u;refine Q.o.mono ?_;rintro e k ⟨v13,rfl,N,O⟩;have G:∀(q:Nat) (o:Obj),A.heap[q]? =some o->k.heap[q]? =some o:=λq o h=>cY N h;obtain⟨T,V⟩:=R.o k λq o _ h=>G q o h;obtain⟨dv,cv,fv,rv,rfl,X,Y,Z,m4⟩:=O k ⟨lR,λ_ _ _ h=>h⟩ T V;have fG:=hI O;have CV:=hI G;obtain⟨d1,r,c1,rfl⟩:∃a n c,dv=.slice a n c:=by obtain⟨a,c,h⟩:=X.slice;exact⟨a,_,c,h⟩
 obtain⟨d2,s,c2,rfl⟩:∃a n c,cv=.slice a n c:=by obtain⟨a,c,h⟩:=Y.slice;exact⟨a,_,c,h⟩
 obtain⟨d3,t,c3,rfl⟩:∃a n c,fv=.slice a n c:=by obtain⟨a,c,h⟩:=Z.slice;exact⟨a,_,c,h⟩
 obtain⟨d4,u,c4,rfl⟩:∃a n c,rv=.slice a n c:=by obtain⟨a,c,h⟩:=m4.slice;exact⟨a,_,c,h⟩
 have x:=G _ _ S.o;obtain⟨yx,RL,J7⟩:=h_3 (ag M.o N lR) (show w.heap.size<A.heap.size from(gE S.o).1) x;clear X Y Z m4 O G T V N Q;have s0:=cZ x;have s1:=eY x;have s2:=fu x;have s3:=xk x;have fz:∀j,k.frozen? ⟨w.heap.size,j,none⟩=false:=λj=>by simp[World.frozen?,x]
 have zs:=af s0;clear x;go_wp2;have X:=cz (o:=0) (v:=.slice d1 r c1) J7.o;have Y:=cz (o:=1) (v:=.slice d2 s c2) X;have Z:=cz (o:=2) (v:=.slice d3 t c3) Y;have Q:=cz (o:=3) (v:=.slice d4 u c4) Z;have N:∀(q:Nat),q≠w.heap.size->((((k.setCell ⟨w.heap.size,0,none⟩ (.slice d1 r c1)).setCell ⟨w.heap.size,1,none⟩ (.slice d2 s c2)).setCell ⟨w.heap.size,2,none⟩ (.slice d3 t c3)).setCell ⟨w.heap.size,3,none⟩ (.slice d4 u c4)).heap[q]? =k.heap[q]? :=λq hq=>by
  exact anX
 have T:((((k.setCell ⟨w.heap.size,0,none⟩ (.slice d1 r c1)).setCell ⟨w.heap.size,1,none⟩ (.slice d2 s c2)).setCell ⟨w.heap.size,2,none⟩ (.slice d3 t c3)).setCell ⟨w.heap.size,3,none⟩ (.slice d4 u c4)).heap.size=k.heap.size:=by simp[World.setCell]
 have V:=Below.setCell (Below.setCell (Below.setCell (Below.setCell yx.o (p:=⟨w.heap.size,0,none⟩) lR (.slice d1 r c1)) (p:=⟨w.heap.size,1,none⟩) lR (.slice d2 s c2)) (p:=⟨w.heap.size,2,none⟩) lR (.slice d3 t c3)) (p:=⟨w.heap.size,3,none⟩) lR (.slice d4 u c4);generalize ((((k.setCell ⟨w.heap.size,0,none⟩ (.slice d1 r c1)).setCell ⟨w.heap.size,1,none⟩ (.slice d2 s c2)).setCell ⟨w.heap.size,2,none⟩ (.slice d3 t c3)).setCell ⟨w.heap.size,3,none⟩ (.slice d4 u c4))=W at Q N T V |-;have G:W.heap[w.heap.size]? =some (.cells #[.slice d1 r c1,.slice d2 s c2,.slice d3 t c3,.slice d4 u c4] 50 (0,0)):=by simpa using Q
 obtain⟨x,O⟩:=R.o W λq o hq P=>(N q (by omega)).trans (CV.o q o P);have Bu:=fG.o W ⟨by rw[T];exact lR,λq o hq P=>(N q (by have:=RL.o;omega)).trans P⟩ x O;have r0:=cZ G;have r1:=eY G;have r2:=fu G;have r3:=xk G;refine bodyPost_ret (v:=.agg #[.slice d1 r c1,.slice d2 s c2,.slice d3 t c3,.slice d4 u c4]) (by simp[results,Tryz.results67,go_sem,r0,r1,r2,r3]) rfl ?_;exact⟨_,rfl,V,Bu⟩
end
end Go.Proofs.YtnicceekibancaaGreat
