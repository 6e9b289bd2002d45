/- Lemmas: KSpec KMap KGr RefB RefC RefD RefA RefE RefF RefG RefH RefI RefJ RefK RefL RefM. -/
import Derived.Test.YtnicceekibancaaGreatBZ
import Derived.Test.YtnicceekibancaaGreatBAA
import Derived.Laws.StructEq
import Derived.Maps.AppendAt
import Derived.Laws.OwnMore
import Derived.Laws.IdiomStrings
set_option linter.all false
set_option maxRecDepth 100000
set_option maxHeartbeats 8000000
namespace Go.Proofs.YtnicceekibancaaGreat
variable{B i k n s:Nat}{T:TypeId}{l:List sr}{p:Int->Int->Nat->Bool}{v:Value}{w w':World}
section
open Go Go.RowKit
def gD(w:World)(B:Nat)(v:Value)(l:List sr):Prop:=∃c,Row w B 2 v l.length c/\∀i,i<l.length->c (i*2)=.string (bS l i).name/\c (i*2+1)=.int .i64 (bS l i).args/\(bS l i).name.size<=140737488355328
def lS(w:World)(B:Nat)(v:Value)(l:List Fo):Prop:=∃c,Row w B 1 v l.length c/\∀i,i<l.length->dr w B (c i) (dD l i)
def eB(w:World)(B:Nat)(v:Value)(l:List fV):Prop:=∃c,Row w B 3 v l.length c/\∀i,i<l.length->c (i*3)=.string (b8 l i).name/\c (i*3+1)=.int .i64 (b8 l i).params/\lS w B (c (i*3+2)) (b8 l i).cons/\(b8 l i).name.size<=140737488355328
def j4(w:World)(B:Nat)(v:Value)(l:List oN):Prop:=∃c,Row w B 6 v l.length c/\∀i,i<l.length->c (i*6)=.int .i64 (cQ l i).fn/\dr w B (c (i*6+1)) (cQ l i).bT/\c (i*6+2)=.int .i64 (cQ l i).rhs.a/\c (i*6+3)=.int .i64 (cQ l i).rhs.n/\dr w B (c (i*6+4)) (cQ l i).rhs.k/\c (i*6+5)=.int .i64 (cQ l i).vars
def ku(w:World)(B:Nat)(v:Value)(s:Sg):Prop:=∃cv fv,v=.agg #[cv,fv]/\gD w B cv s.cons/\gD w B fv s.bj
def I0(w:World)(B:Nat)(v:Value)(p:Pg):Prop:=∃cv fv rv,v=.agg #[cv,fv,rv]/\gD w B cv p.sig.cons/\gD w B fv p.sig.bj/\j4 w B rv p.rules
def jM(w:World)(B:Nat)(v:Value)(m:Md):Prop:=∃dv cv fv rv,v=.agg #[dv,cv,fv,rv]/\eB w B dv m.bH/\gD w B cv m.prog.sig.cons/\gD w B fv m.prog.sig.bj/\j4 w B rv m.prog.rules
def I1(w:World)(B:Nat)(v:Value)(r:oN):Prop:=∃p k,v=.agg #[.int .i64 r.fn,p,.int .i64 r.rhs.a,.int .i64 r.rhs.n,k,.int .i64 r.vars]/\dr w B p r.bT/\dr w B k r.rhs.k
section
variable {w w':World} {B B':Nat} {v:Value}
theorem gD.below(h:gD w B v l)(a:Below B' w w')(hB:B<=B'):gD w' B v l:=let⟨c,b,hc⟩:=h;⟨c,b.below a hB,hc⟩
theorem gD.mono(h:gD w B v l)(hB:B<=B'):gD w B' v l:=let⟨c,a,hc⟩:=h;⟨c,a.mono hB,hc⟩
theorem lS.below{l:List Fo}(h:lS w B v l)(a:Below B' w w')(hB:B<=B'):lS w' B v l:=let⟨c,b,hc⟩:=h;⟨c,b.below a hB,λi hi=>(hc i hi).below a hB⟩
theorem lS.mono{l:List Fo}(h:lS w B v l)(hB:B<=B'):lS w B' v l:=let⟨c,a,hc⟩:=h;⟨c,a.mono hB,λi hi=>(hc i hi).mono hB⟩
theorem eB.below{l:List fV}(h:eB w B v l)(a:Below B' w w')(hB:B<=B'):eB w' B v l:=let⟨c,b,hc⟩:=h;⟨c,b.below a hB,λi hi=>⟨(hc i hi).1,(hc i hi).2.1,(hc i hi).2.2.1.below a hB,(hc i hi).2.2.2⟩⟩
theorem eB.mono{l:List fV}(h:eB w B v l)(hB:B<=B'):eB w B' v l:=let⟨c,a,hc⟩:=h;⟨c,a.mono hB,λi hi=>⟨(hc i hi).1,(hc i hi).2.1,(hc i hi).2.2.1.mono hB,(hc i hi).2.2.2⟩⟩
theorem j4.below{l:List oN}(h:j4 w B v l)(a:Below B' w w')(hB:B<=B'):j4 w' B v l:=let⟨c,b,hc⟩:=h;⟨c,b.below a hB,λi hi=>let⟨d,a2,a3,a4,a5,e⟩:=hc i hi;⟨d,a2.below a hB,a3,a4,a5.below a hB,e⟩⟩
theorem j4.mono{l:List oN}(h:j4 w B v l)(hB:B<=B'):j4 w B' v l:=let⟨c,a,hc⟩:=h;⟨c,a.mono hB,λi hi=>let⟨b,a2,a3,a4,a5,d⟩:=hc i hi;⟨b,a2.mono hB,a3,a4,a5.mono hB,d⟩⟩
theorem ku.below{s:Sg}(h:ku w B v s)(a:Below B' w w')(hB:B<=B'):ku w' B v s:=let⟨c,f,e,b,d⟩:=h;⟨c,f,e,b.below a hB,d.below a hB⟩
theorem ku.mono{s:Sg}(h:ku w B v s)(hB:B<=B'):ku w B' v s:=let⟨c,f,e,a,b⟩:=h;⟨c,f,e,a.mono hB,b.mono hB⟩
theorem jM.below{m:Md}(h:jM w B v m)(a:Below B' w w')(hB:B<=B'):jM w' B v m:=let⟨d,c,f,r,e,b,g,i,j⟩:=h;⟨d,c,f,r,e,b.below a hB,g.below a hB,i.below a hB,j.below a hB⟩
theorem jM.mono{m:Md}(h:jM w B v m)(hB:B<=B'):jM w B' v m:=let⟨d,c,f,r,e,a,b,g,i⟩:=h;⟨d,c,f,r,e,a.mono hB,b.mono hB,g.mono hB,i.mono hB⟩
theorem I1.below{r:oN}(h:I1 w B v r)(a:Below B' w w')(hB:B<=B'):I1 w' B v r:=let⟨c,f,e,b,d⟩:=h;⟨c,f,e,b.below a hB,d.below a hB⟩
theorem gD.slice(h:gD w B v l):∃a c,v=.slice a l.length c:=by obtain⟨c,⟨_,a,cap,rfl,_⟩,_⟩:=h;exact⟨_,_,rfl⟩
theorem lS.slice{l:List Fo}(h:lS w B v l):∃a c,v=.slice a l.length c:=by obtain⟨c,⟨_,a,cap,rfl,_⟩,_⟩:=h;exact⟨_,_,rfl⟩
theorem eB.slice{l:List fV}(h:eB w B v l):∃a c,v=.slice a l.length c:=by obtain⟨c,⟨_,a,cap,rfl,_⟩,_⟩:=h;exact⟨_,_,rfl⟩
theorem j4.slice{l:List oN}(h:j4 w B v l):∃a c,v=.slice a l.length c:=by obtain⟨c,⟨_,a,cap,rfl,_⟩,_⟩:=h;exact⟨_,_,rfl⟩
theorem gD.small(h:gD w B v l):l.length<=140737488355328:=by obtain⟨c,⟨h,_⟩,_⟩:=h;exact h
theorem lS.small{l:List Fo}(h:lS w B v l):l.length<=140737488355328:=by obtain⟨c,⟨h,_⟩,_⟩:=h;exact h
theorem eB.small{l:List fV}(h:eB w B v l):l.length<=140737488355328:=by obtain⟨c,⟨h,_⟩,_⟩:=h;exact h
theorem j4.small{l:List oN}(h:j4 w B v l):l.length<=140737488355328:=by obtain⟨c,⟨h,_⟩,_⟩:=h;exact h
variable {wr:World}
theorem fJ(h:gD w B v l)(e:Below B w wr)(g:k<l.length):
 ∃b off cap,v=.slice (some ⟨b,off,none⟩) l.length cap/\b<B/\wr.cell? ⟨b,off+k*2,none⟩=some (.string (bS l k).name)/\wr.cell? ⟨b,off+k*2+1,none⟩=some (.int .i64 (bS l k).args)/\(bS l k).name.size<=140737488355328:=by
 obtain⟨c,⟨_,a,cap,rfl,_,_,i⟩,hc⟩:=h;obtain⟨b,off,rfl,d,f⟩:=i (by omega);obtain⟨j,m,n⟩:=hc k g;exact⟨b,off,cap,rfl,d,by rw[e.cell (p:=⟨b,off+k*2,none⟩) d,f _ (by omega),j],by rw[e.cell (p:=⟨b,off+k*2+1,none⟩) d,bN,f _ (by omega),m],n⟩
theorem mq{l:List Fo}(h:lS w B v l)(e:Below B w wr)(j:k<l.length):
 ∃b off cap p d,v=.slice (some ⟨b,off,none⟩) l.length cap/\b<B/\wr.cell? ⟨b,off+k,none⟩=some (.slice p (dD l k).len d)/\dr wr B (.slice p (dD l k).len d) (dD l k):=by
 obtain⟨c,⟨_,a,cap,rfl,_,_,m⟩,hc⟩:=h;obtain⟨b,off,rfl,f,n⟩:=m (by omega);have g:=hc k j;obtain⟨p,d,i⟩:=g.slice;exact⟨b,off,cap,p,d,rfl,f,by rw[e.cell (p:=⟨b,off+k,none⟩) f,n _ (by omega),i],by rw[<-i];exact g.below e lR⟩
theorem iR{l:List fV}(h:eB w B v l)(d:Below B w wr)(m:k<l.length):
 ∃b off cap p e,v=.slice (some ⟨b,off,none⟩) l.length cap/\b<B/\wr.cell? ⟨b,off+k*3,none⟩=some (.string (b8 l k).name)/\wr.cell? ⟨b,off+k*3+1,none⟩=some (.int .i64 (b8 l k).params)/\
  wr.cell? ⟨b,off+k*3+2,none⟩=some (.slice p (b8 l k).cons.length e)/\lS wr B (.slice p (b8 l k).cons.length e) (b8 l k).cons/\(b8 l k).name.size<=140737488355328:=by
 obtain⟨c,⟨_,a,cap,rfl,_,_,n⟩,hc⟩:=h;obtain⟨b,off,rfl,f,g⟩:=n (by omega);obtain⟨o,q,i,r⟩:=hc k m;obtain⟨p,e,j⟩:=i.slice;exact⟨b,off,cap,p,e,rfl,f,by rw[d.cell (p:=⟨b,off+k*3,none⟩) f,g _ (by omega),o],by rw[d.cell (p:=⟨b,off+k*3+1,none⟩) f,bN,g _ (by omega),q],
  by rw[d.cell (p:=⟨b,off+k*3+2,none⟩) f,bN,g _ (by omega),j],by rw[<-j];exact i.below d lR,r⟩
theorem zK{l:List oN}(h:j4 w B v l)(g:Below B w wr)(s:k<l.length):
 ∃b off cap p d q f,v=.slice (some ⟨b,off,none⟩) l.length cap/\b<B/\wr.cell? ⟨b,off+k*6,none⟩=some (.int .i64 (cQ l k).fn)/\wr.cell? ⟨b,off+k*6+1,none⟩=some (.slice p (cQ l k).bT.len d)/\
  wr.cell? ⟨b,off+k*6+2,none⟩=some (.int .i64 (cQ l k).rhs.a)/\wr.cell? ⟨b,off+k*6+3,none⟩=some (.int .i64 (cQ l k).rhs.n)/\wr.cell? ⟨b,off+k*6+4,none⟩=some (.slice q (cQ l k).rhs.k.len f)/\
  wr.cell? ⟨b,off+k*6+5,none⟩=some (.int .i64 (cQ l k).vars)/\dr wr B (.slice p (cQ l k).bT.len d) (cQ l k).bT/\dr wr B (.slice q (cQ l k).rhs.k.len f) (cQ l k).rhs.k:=by
 obtain⟨c,⟨_,a,cap,rfl,_,_,t⟩,hc⟩:=h;obtain⟨b,off,rfl,i,x⟩:=t (by omega);obtain⟨y,m,z,A,n,C⟩:=hc k s;obtain⟨p,d,o⟩:=m.slice;obtain⟨q,f,r⟩:=n.slice;have at':∀j u,j<6->c (k*6+j)=u->wr.cell? ⟨b,off+k*6+j,none⟩=some u:=λj u D e=>by rw[g.cell (p:=⟨b,off+k*6+j,none⟩) i,bN,x _ (by omega),e]
 exact⟨b,off,cap,p,d,q,f,rfl,i,at' 0 _ (by omega) y,at' 1 _ (by omega) o,at' 2 _ (by omega) z,at' 3 _ (by omega) A,at' 4 _ (by omega) r,at' 5 _ (by omega) C,by rw[<-o];exact m.below g lR,by rw[<-r];exact n.below g lR⟩
end
def rP(c:Nat):Bool:=(decide (97<=c)&&decide (c<=122))||(decide (65<=c)&&decide (c<=90))
def D8(l:List UInt8):Bool:=l.all λc=>rP c.toNat
def eV(s:ByteArray):Bool:=D8 s.data.toList&&(decide (1<=s.size)&&decide (s.size<=8))
def fX(n lo hi:Int):Bool:=decide (lo<=n)&&decide (n<=hi)
theorem sH(c:Nat)(_:c<256):(c<65/\rP c=false)\/(65<=c/\c<=90/\rP c=true)\/(90<c/\c<97/\rP c=false)\/(97<=c/\c<=122/\rP c=true)\/(122<c/\rP c=false):=by
 unfold rP;by_cases a:97<=c<;>by_cases b:c<=122<;>by_cases d:65<=c<;>by_cases e:c<=90<;>simp[a,b,d,e]<;>omega
theorem ji{s:ByteArray}(a:k<s.size)(h:rP s[k].toNat=false):eV s=false:=by
 unfold eV D8;rw[Bool.and_eq_false_iff];left;rw[b5];intro hc;have:=aK.1 hc s[k] (Array.getElem_mem_toList (by simpa using a));rw[h]at this;cases this
theorem sI{s:ByteArray}(h:∀k (a:k<s.size),rP s[k].toNat=true):D8 s.data.toList=true:=by
 unfold D8;rw[aK];intro x b;obtain⟨k,a,rfl⟩:=bC.1 b;exact h k (by simpa using a)
theorem oO{s:ByteArray}(h:D8 s.data.toList=true):eV s=fX s.size 1 8:=by
 unfold eV fX;rw[h,aU]
 congr 1
 ·by_cases h:1<=s.size
  ·rw[aI h,aI (by omega)]
  ·rw[aB h,aB (by omega)]
 ·by_cases h:s.size<=8
  ·rw[aI h,aI (by omega)]
  ·rw[aB h,aB (by omega)]
section
variable {κ:Type} [DecidableEq κ] {P:Program}
structure sJ (P:Program) (kt:TypeId) (enc:κ->Value):Prop where
 find:∃D,P.underlying kt=some D/\∀a b,Instr.sameNow D (enc a) (enc b)=some (decide (a=b))
 check:∀b a w,(Instr.checkKey b 10000 kt (enc a)).run P w=.ok () w
 stays:∀a,Instr.sameBits 10000 (enc a) (enc a)=true
def pz(M:List (κ×Value))(k:κ):Option Value:=(M.find? λx=>decide (k=x.1)).map (·.2)
def zM:List (κ×Value)->κ->Value->List (κ×Value)
 |[],k,v=>[(k,v)]
 |x::M,k,v=>if k=x.1 then(k,v)::M else x::zM M k v
def CH:List (κ×Value)->κ->List (κ×Value)
 |[],_=>[]
 |x::M,k=>if k=x.1 then M else x::CH M k
def qI:List (κ×Value)->κ->Nat->Option (Nat×Value)
 |[],_,_=>none
 |x::M,k,i=>if k=x.1 then some (i,x.2)else qI M k (i+1)
theorem Ba:∀(M:List (κ×Value)) (k:κ) (i:Nat),(qI M k i).map (·.2)=pz M k
 |[],_,_=>rfl
 |x::M,k,i=>by
  unfold qI pz;rw[List.find?_cons];by_cases h:k=x.1
  ·rw[aq h,aI h];rfl
  ·rw[ah h,aB h];exact Ba M k (i+1)
theorem I3:∀(M:List (κ×Value)) (k:κ) (i j:Nat) (v:Value),qI M k i=some (j,v)->i<=j/\j<i+M.length
 |[],_,_,_,_,h=>by cases h
 |x::M,k,i,j,v,h=>by
  unfold qI at h
  split at h
  ·cases h;rw[aD];omega
  ·have:=I3 M k (i+1) j v h;rw[aD];omega
theorem jG(x:κ×Value)(M:List (κ×Value))(k:κ):pz (x::M) k=if k=x.1 then some x.2 else pz M k:=by
 unfold pz;rw[List.find?_cons];by_cases h:k=x.1
 ·rw[aq h,aI h];rfl
 ·rw[ah h,aB h]
theorem RH{M:List (κ×Value)}{k:κ}(h:pz M k=some v):(k,v)∈M:=by
 unfold pz at h;cases a:M.find? λx=>decide (k=x.1)with
 |none=>rw[a]at h;cases h
 |some x=>
  rw[a]at h;cases h;have:=List.find?_some a;have b:k=x.1:=bu this;rw[b];exact List.mem_of_find?_eq_some a
theorem x_{M:List (κ×Value)}{k:κ}:pz M k=none↔k ∉ M.map (·.1):=by
 induction M with
 |nil=>simp[pz]
 |cons x M a=>
  rw[jG,bz,aE];by_cases h:k=x.1
  ·rw[aq h];simp[h]
  ·rw[ah h,a];simp[h]
theorem GO:∀(M:List (κ×Value)) (k j:κ) (v:Value),pz (zM M k v) j=if j=k then some v else pz M j
 |[],k,j,v=>by unfold zM;rw[jG]
 |x::M,k,j,v=>by
  unfold zM;by_cases h:k=x.1
  ·rw[aq h,jG,jG];by_cases a:j=k
   ·rw[aq a,aq a]
   ·rw[ah a,ah a,ah (by rw[<-h];exact a)]
  ·rw[ah h,jG,jG,GO M k j v];by_cases a:j=x.1
   ·rw[aq a,ah (by rw[a];exact Ne.symm h),aq a]
   ·rw[ah a,ah a]
theorem Bb:∀(M:List (κ×Value)) (k:κ) (v:Value),(zM M k v).map (·.1)=if k∈M.map (·.1)then M.map (·.1)else M.map (·.1)++[k]
 |[],k,v=>rfl
 |x::M,k,v=>by
  unfold zM;by_cases h:k=x.1
  ·rw[aq h,aq (by simp[h]),bz,bz,h]
  ·rw[ah h,bz,Bb M k v,bz];by_cases hm:k∈M.map (·.1)
   ·rw[aq hm,aq (aS _ hm)]
   ·rw[ah hm,ah (by rw[aE,not_or];exact⟨h,hm⟩)];rfl
theorem NF{M:List (κ×Value)}(h:(M.map (·.1)).Nodup)(k:κ)(v:Value):((zM M k v).map (·.1)).Nodup:=by
 rw[Bb]
 split
 ·exact h
 ·rename_i c;exact List.nodup_append.2 ⟨h,by simp,λa d b f=>by rw[aJ.1 f];exact λe=>c (e ▸ d)⟩
theorem KF:∀(M:List (κ×Value)) (k:κ),((CH M k).map (·.1)).Sublist (M.map (·.1))
 |[],_=>List.Sublist.refl _
 |x::M,k=>by
  unfold CH
  split
  ·exact List.sublist_cons_self _ _
  ·exact(KF M k).cons_cons _
theorem NG{M:List (κ×Value)}(h:(M.map (·.1)).Nodup)(k:κ):((CH M k).map (·.1)).Nodup:=h.sublist (KF M k)
theorem GP:∀(M:List (κ×Value)) (k j:κ),(M.map (·.1)).Nodup->pz (CH M k) j=if j=k then none else pz M j
 |[],k,j,_=>by unfold CH;split<;>rfl
 |x::M,k,j,h=>by
  rw[bz,List.nodup_cons]at h;unfold CH;by_cases b:k=x.1
  ·rw[aq b];by_cases a:j=k
   ·rw[aq a];exact x_.2 (by rw[a,b];exact h.1)
   ·rw[ah a,jG,ah (by rw[<-b];exact a)]
  ·rw[ah b,jG,jG,GP M k j h.2];by_cases a:j=x.1
   ·rw[aq a,ah (by rw[a];exact Ne.symm b),aq a]
   ·rw[ah a,ah a]
variable {enc:κ->Value} {kt:TypeId}
theorem BP{D:TypeDesc}(d:∀a b,Instr.sameNow D (enc a) (enc b)=some (decide (a=b)))(k:κ):∀(es:List MapEntry) (M:List (κ×Value)) (i:Nat),es.map (λe=>(e.key,e.val))=M.map (λx=>(enc x.1,x.2))->
 Instr.findNow D (enc k) es i=some (qI M k i)
 |[],M,i,h=>by
  have:M=[]:=by cases M with
   |nil=>rfl
   |cons x xs=>simp at h
  subst this;rfl
 |e::es,[],i,h=>by simp at h
 |e::es,x::M,i,h=>by
  simp only[bz,List.cons.injEq,Prod.mk.injEq]at h;obtain⟨⟨f,g⟩,j⟩:=h;unfold Instr.findNow qI;rw[f,d];by_cases c:k=x.1
  ·simp only[aI c,aq c,g]
  ·simp only[aB c,ah c];exact BP d k es M (i+1) j
theorem run_findKey(a:sJ P kt enc)(k:κ)(es:List MapEntry)(M:List (κ×Value))(w:World)(h:es.map (λe=>(e.key,e.val))=M.map (λx=>(enc x.1,x.2))):
 (Instr.findKey kt (enc k) es).run P w=.ok (qI M k 0) w:=by
 obtain⟨D,hu,b⟩:=a.find;unfold Instr.findKey;rw[bB,run_underlying hu w,bg,BP b k es M 0 h]
 rfl
theorem mQ{r:Nat}{es:Array MapEntry}{c:Nat}(h:w.heap[r]? =some (.map es c)):(getObj r).run P w=.ok (.map es c) w:=by
 simp only[getObj,Sem.run,h]
theorem sK{r:Nat}{es:Array MapEntry}{c:Nat}(o:Obj)(h:w.heap[r]? =some (.map es c)):(setObj r o).run P w=.ok () (w.putObj r o):=by
 simp only[setObj,Sem.run,h]
 rfl
def wP(enc:κ->Value)(w:World)(mb:Nat)(M:List (κ×Value)):Prop:=∃(es:Array MapEntry) (c:Nat),w.heap[mb]? =some (.map es c)/\es.toList.map (λe=>(e.key,e.val))=M.map (λx=>(enc x.1,x.2))/\
 (es.toList.map (·.born)).Nodup/\∀e∈es.toList,e.born<c
def eu(enc:κ->Value)(w:World)(mb:Nat)(f:κ->Option Value):Prop:=∃M,wP enc w mb M/\(M.map (·.1)).Nodup/\∀k,pz M k=f k
omit [DecidableEq κ]in
theorem wP.lt{mb:Nat}{M:List (κ×Value)}(h:wP enc w mb M):mb<w.heap.size:=by
 obtain⟨es,c,a,_⟩:=h;exact(gE a).1
omit [DecidableEq κ]in
theorem wP.same{mb:Nat}{M:List (κ×Value)}(h:wP enc w mb M)(a:∀o,w.heap[mb]? =some o->w'.heap[mb]? =some o):wP enc w' mb M:=by
 obtain⟨es,c,b,d⟩:=h;exact⟨es,c,a _ b,d⟩
theorem eu.lt{mb:Nat}{f:κ->Option Value}(h:eu enc w mb f):mb<w.heap.size:=let⟨_,h,_⟩:=h;h.lt
theorem eu.same{mb:Nat}{f:κ->Option Value}(h:eu enc w mb f)(a:∀o,w.heap[mb]? =some o->w'.heap[mb]? =some o):eu enc w' mb f:=let⟨M,h,b⟩:=h;⟨M,h.same a,b⟩
theorem eu.below{mb:Nat}{f:κ->Option Value}(h:eu enc w mb f)(a:Below B w w')(hB:mb<B):eu enc w' mb f:=h.same λ_ b=>(a.block mb hB).trans b
theorem eu.congr{mb:Nat}{f g:κ->Option Value}(h:eu enc w mb f)(e:∀k,f k=g k):eu enc w mb g:=let⟨M,a,b,c⟩:=h;⟨M,a,b,λk=>(c k).trans (e k)⟩
theorem eu.setCell{mb:Nat}{f:κ->Option Value}(h:eu enc w mb f)(p:Addr)(v:Value):eu enc (w.setCell p v) mb f:=by
 obtain⟨M,⟨es,c,a,b⟩,d⟩:=h;refine⟨M,⟨es,c,?_,b⟩,d⟩;by_cases hp:mb=p.block
 ·subst hp;simp only[World.setCell,Array.getElem?_modify,if_true,a,Option.map_some]
 ·exact(au _ _ _ _ hp).trans a
omit [DecidableEq κ]in
theorem wP.new(w:World)(enc:κ->Value):wP enc (w.alloc (.map #[] 0)) w.heap.size []:=⟨#[],0,a_ _ _,rfl,by simp,λe he=>by simp at he⟩
theorem eu.new(w:World)(enc:κ->Value):eu enc (w.alloc (.map #[] 0)) w.heap.size (λ_=>none):=⟨[],wP.new w enc,by simp,λ_=>rfl⟩
variable {w:World} {mb:Nat}
theorem lp{et:TypeId}(e:P.underlying T=some (.map kt et))(b:sJ P kt enc){f:κ->Option Value}(h:eu enc w mb f){k:κ}(g:f k=some v)(ok:Bool):
 (Instr.lookup T (.map (some mb)) (enc k) ok).run P w=.ok (if ok then .tuple #[v,.bool true]else v) w:=by
 obtain⟨M,⟨es,c,j,l,_⟩,_,m⟩:=h;have a:=Ba M k 0;rw[m,g]at a;obtain⟨i,hi⟩:∃i,qI M k 0=some (i,v):=by
  cases d:qI M k 0 with
  |none=>rw[d]at a;cases a
  |some x=>rw[d]at a;cases a;exact⟨x.1,rfl⟩
 unfold Instr.lookup;rw[bB,run_underlying e w,bg];simp only[bB,mQ j,bg,Sem.run_pure,b.check,run_findKey b k es.toList M w l,hi]
theorem pE{et:TypeId}(d:P.underlying T=some (.map kt et))(b:sJ P kt enc){z:Value}(e:∀w,(zeroValue et).run P w=.ok z w){f:κ->Option Value}(h:eu enc w mb f){k:κ}(g:f k=none)(ok:Bool):
 (Instr.lookup T (.map (some mb)) (enc k) ok).run P w=.ok (if ok then .tuple #[z,.bool false]else z) w:=by
 obtain⟨M,⟨es,c,i,j,_⟩,_,l⟩:=h;have a:=Ba M k 0;rw[l,g]at a;have hi:qI M k 0=none:=by
  cases m:qI M k 0 with
  |none=>rfl
  |some x=>rw[m]at a;cases a
 unfold Instr.lookup;rw[bB,run_underlying d w,bg];simp only[bB,mQ i,bg,Sem.run_pure,b.check,run_findKey b k es.toList M w j,hi,e]
theorem KG:∀(M:List (κ×Value)) (k:κ) (v:Value) (i:Nat),qI M k i=none->zM M k v=M++[(k,v)]
 |[],_,_,_,_=>rfl
 |x::M,k,v,i,h=>by
  unfold qI at h;unfold zM
  split at h
  ·cases h
  ·rename_i a;rw[ah a,KG M k v (i+1) h];rfl
theorem KH{enc:κ->Value}:∀(M:List (κ×Value)) (k:κ) (v u:Value) (i j:Nat) (es:List MapEntry),qI M k i=some (j,u)->es.map (λe=>(e.key,e.val))=M.map (λx=>(enc x.1,x.2))->
 (es.modify (j-i) λe=>{ e with key:=enc k,val:=v}).map (λe=>(e.key,e.val))=(zM M k v).map (λx=>(enc x.1,x.2))/\(es[j-i]?).map (·.key)=some (enc k)
 |[],_,_,_,_,_,_,h,_=>by cases h
 |x::M,k,v,u,i,j,[],h,he=>by simp at he
 |x::M,k,v,u,i,j,e::es,h,he=>by
  simp only[bz,List.cons.injEq,Prod.mk.injEq]at he;obtain⟨⟨d,g⟩,f⟩:=he;unfold qI at h;unfold zM;by_cases c:k=x.1
  ·rw[aq c]at h |-;cases h;rw[Nat.sub_self];refine⟨?_,by simp[d,c]⟩;simp only[List.modify_zero_cons,bz,f]
  ·rw[ah c]at h |-;have m:=I3 M k (i+1) j u h;obtain⟨a,b⟩:=KH M k v u (i+1) j es h f;obtain⟨q,l⟩:∃q,j-i=q+1:=⟨j-i-1,by omega⟩;rw[show j-(i+1)=q by omega]at a b;rw[l];refine⟨?_,by simpa using b⟩;simp only[List.modify_succ_cons,bz,a,d,g]
theorem uQ(f:MapEntry->MapEntry)(a:∀e,(f e).born=e.born):∀(es:List MapEntry) (i:Nat),(es.modify i f).map (·.born)=es.map (·.born)
 |[],i=>by simp
 |e::es,0=>by simp[a]
 |e::es,i+1=>by simp[uQ f a es i]
theorem KI{et:TypeId}(p:P.underlying T=some (.map kt et))(f:sJ P kt enc){M:List (κ×Value)}(h:wP enc w mb M)(k:κ)(v:Value):
 ∃o,(Instr.mapUpdate T (.map (some mb)) (enc k) v).run P w=.ok () (w.putObj mb o)/\wP enc (w.putObj mb o) mb (zM M k v)/\o.isCells=false:=by
 have q:=h.lt;obtain⟨es,c,g,j,r,m⟩:=h;cases d:qI M k 0 with
 |none=>
  refine⟨.map (es.push { key:=enc k,val:=v,born:=c}) (c+1),?_,⟨_,_,World.putObj_heap_same q,?_,?_,?_⟩,rfl⟩
  ·unfold Instr.mapUpdate;rw[bB,run_underlying p w,bg];simp only[bB,mQ g,bg,f.check,run_findKey f k es.toList M w j,d];rw[sK _ g]
  ·rw[Array.toList_push,bA,j,KG M k v 0 d,bA];rfl
  ·rw[Array.toList_push,bA,bz,List.map_nil];refine List.nodup_append.2 ⟨r,by simp,λa d b l=> ?_⟩;obtain⟨e,he,rfl⟩:=aN.1 d;rw[aJ.1 l];exact Nat.ne_of_lt (m e he)
  ·intro e he;rw[Array.toList_push,aQ]at he;rcases he with he|he
   ·exact Nat.lt_succ_of_lt (m e he)
   ·rw[aJ.1 he];exact Nat.lt_succ_self _
 |some x=>
  obtain⟨i,u⟩:=x;have hold:=KH (enc:=enc) M k v u 0 i es.toList d j;rw[Nat.sub_zero]at hold;have n:((es[i]?).map (·.key)).getD (enc k)=enc k:=by
   have:=hold.2;rw[Array.getElem?_toList]at this;rw[this];rfl
  have s:(Instr.keyThatStays (enc k) (enc k)).run P w=.ok (enc k) w:=by
   unfold Instr.keyThatStays;rw[aq (f.stays k)]
   rfl
  refine⟨.map (es.modify i λe=>{ e with key:=enc k,val:=v}) c,?_,⟨_,_,World.putObj_heap_same q,?_,?_,?_⟩,rfl⟩
  ·unfold Instr.mapUpdate;rw[bB,run_underlying p w,bg];simp only[bB,mQ g,bg,f.check,run_findKey f k es.toList M w j,d,n,s];rw[sK _ g]
  ·rw[Array.toList_modify];exact hold.1
  ·rw[Array.toList_modify,uQ (λe=>{ e with key:=enc k,val:=v}) (λ_=>rfl)];exact r
  ·intro e he;rw[Array.toList_modify]at he;have l:e.born∈(es.toList.modify i λe=>{ e with key:=enc k,val:=v}).map (·.born):=aN.2 ⟨e,he,rfl⟩;rw[uQ (λe=>{ e with key:=enc k,val:=v}) (λ_=>rfl)]at l;obtain⟨t,y,z⟩:=aN.1 l;rw[<-z];exact m t y
theorem run_set{et:TypeId}(a:P.underlying T=some (.map kt et))(b:sJ P kt enc){f:κ->Option Value}(h:eu enc w mb f)(k:κ)(v:Value):
 ∃o,(Instr.mapUpdate T (.map (some mb)) (enc k) v).run P w=.ok () (w.putObj mb o)/\eu enc (w.putObj mb o) mb (λj=>if j=k then some v else f j)/\o.isCells=false:=by
 obtain⟨M,c,d,e⟩:=h;obtain⟨o,g,i,l⟩:=KI a b c k v;exact⟨o,g,⟨_,i,NF d k v,λj=>by rw[GO,e]⟩,l⟩
theorem GQ:∀(M:List (κ×Value)) (k:κ) (i:Nat),qI M k i=none->CH M k=M
 |[],_,_,_=>rfl
 |x::M,k,i,h=>by
  unfold qI at h;unfold CH
  split at h
  ·cases h
  ·rename_i a;rw[ah a,GQ M k (i+1) h]
theorem KL{enc:κ->Value}:∀(M:List (κ×Value)) (k:κ) (u:Value) (i j:Nat) (es:List MapEntry),qI M k i=some (j,u)->es.map (λe=>(e.key,e.val))=M.map (λx=>(enc x.1,x.2))->
 (es.eraseIdx (j-i)).map (λe=>(e.key,e.val))=(CH M k).map (λx=>(enc x.1,x.2))
 |[],_,_,_,_,_,h,_=>by cases h
 |x::M,k,u,i,j,[],h,he=>by simp at he
 |x::M,k,u,i,j,e::es,h,he=>by
  simp only[bz,List.cons.injEq,Prod.mk.injEq]at he;obtain⟨⟨d,f⟩,a⟩:=he;unfold qI at h;unfold CH;by_cases b:k=x.1
  ·rw[aq b]at h |-;cases h;rw[Nat.sub_self];simpa using a
  ·rw[ah b]at h |-;have l:=I3 M k (i+1) j u h;have c:=KL M k u (i+1) j es h a;obtain⟨q,g⟩:∃q,j-i=q+1:=⟨j-i-1,by omega⟩;rw[show j-(i+1)=q by omega]at c;rw[g];simp only[List.eraseIdx_cons_succ,bz,c,d,f]
theorem U1{et:TypeId}(hT:P.underlying T=some (.map kt et))(hK:sJ P kt enc){M:List (κ×Value)}(h:wP enc w mb M)(k:κ)(ty:TypeId):
 ∃o,(Builtin.delete_ #[T,kt] ty #[.map (some mb),enc k]).run P w=.ok (.tuple #[]) (w.putObj mb o)/\wP enc (w.putObj mb o) mb (CH M k)/\o.isCells=false:=by
 have b:=h.lt;obtain⟨es,c,h1,h2,d,f⟩:=h;cases ha:qI M k 0 with
 |none=>
  refine⟨.map es c,?_,⟨_,_,World.putObj_heap_same b,?_,d,f⟩,rfl⟩
  ·exact anI
  ·rw[GQ M k 0 ha];exact h2
 |some x=>
  obtain⟨i,u⟩:=x;have hold:=KL (enc:=enc) M k u 0 i es.toList ha h2;rw[Nat.sub_zero]at hold;have a:(es.eraseIdxIfInBounds i).toList=es.toList.eraseIdx i:=by
   unfold Array.eraseIdxIfInBounds
   split
   ·simp
   ·rw[List.eraseIdx_of_length_le];simp;omega
  refine⟨.map (es.eraseIdxIfInBounds i) c,?_,⟨_,_,World.putObj_heap_same b,by rw[a];exact hold,?_,?_⟩,rfl⟩
  ·exact anI
  ·rw[a];exact d.sublist ((List.eraseIdx_sublist _ _).map _)
  ·intro e he;rw[a]at he;exact f e (List.mem_of_mem_eraseIdx he)
theorem ZU{et:TypeId}(b:P.underlying T=some (.map kt et))(c:sJ P kt enc){f:κ->Option Value}(h:eu enc w mb f)(k:κ)(ty:TypeId):
 ∃o,(Builtin.delete_ #[T,kt] ty #[.map (some mb),enc k]).run P w=.ok (.tuple #[]) (w.putObj mb o)/\eu enc (w.putObj mb o) mb (λj=>if j=k then none else f j)/\o.isCells=false:=by
 obtain⟨M,d,a,e⟩:=h;obtain⟨o,g,i,l⟩:=U1 b c d k ty;exact⟨o,g,⟨_,i,NG a k,λj=>by rw[GP M k j a,e]⟩,l⟩
end
theorem gU:sJ Tryz.prog 3 eT:=⟨⟨_,Tryz.underlying3,λa b=>by unfold eT Instr.sameNow;simp only[if_true];congr 1⟩,λb a w=>by kernel_rfl,λa=>by unfold eT;simp[Instr.sameBits]⟩
theorem bytes_beq(a b:ByteArray):(a==b)=decide (a=b):=by
 cases a;cases b;rename_i x y;show(x==y)=_;rw[aP];simp
theorem sL(a b:ByteArray):(a.toList==b.toList)=decide (a=b):=by rw[<-beq_toListBytes,bytes_beq]
def U2(s:ByteArray):Value:=.string s
theorem I4:sJ Tryz.prog 9 U2:=⟨⟨_,Tryz.underlying9,λa b=>by show some (a==b)=some (decide (a=b));rw[bytes_beq]⟩,λb a w=>by kernel_rfl,λa=>by show(a==a)=true;rw[bytes_beq];simp⟩
structure GK where
 T:TypeId
 V:TypeId
 sz:Int->Int
def xm(s:Int):Int:=if s= -1 then 4 else if s=0 then 0 else s-1
def jU:GK:=⟨110,193,xm⟩
def NH:Option Nat->Int
 |none=> -1
 |some m=>(m:Nat)
def j5(K:GK)(x:Vx)(p:Value):List Value:=[.int .i64 (K.sz x.sort),.int .i64 x.n,p,.int .i64 (NH x.to)]
def jk(K:GK):Gr->List Value->List Value
 |x::g,p::ps=>j5 K x p++jk K g ps
 |_,_=>[]
section
variable {K:GK}
theorem BQ:∀{g:Gr} {ps:List Value} {x:Vx} {p:Value},ps.length=g.length->jk K (g++[x]) (ps++[p])=jk K g ps++j5 K x p
 |[],[],x,p,_=>by simp[jk]
 |y::g,q::ps,x,p,h=>by
  show j5 K y q++jk K (g++[x]) (ps++[p])=(j5 K y q++jk K g ps)++j5 K x p;rw[BQ (by simpa using h),aG]
 |[],_::_,_,_,h=>by simp at h
 |_::_,[],_,_,h=>by simp at h
theorem D9:∀{g:Gr} {ps:List Value} {i:Nat},ps.length=g.length->i<g.length->
 (jk K g ps)[i*4]? =some (.int .i64 (K.sz (aX g i).sort))/\(jk K g ps)[i*4+1]? =some (.int .i64 (aX g i).n)/\(jk K g ps)[i*4+2]? =ps[i]?/\(jk K g ps)[i*4+3]? =some (.int .i64 (NH (aX g i).to))
 |x::g,p::ps,0,_,_=>⟨rfl,rfl,rfl,rfl⟩
 |x::g,p::ps,i+1,h,hi=>by
  have:=D9 (g:=g) (ps:=ps) (i:=i) (by simpa using h) (by simpa using hi);unfold jk;have e:∀j,(j5 K x p++jk K g ps)[(i+1)*4+j]? =(jk K g ps)[i*4+j]? :=λj=>by
   rw[bo (by simp[j5];omega)]
   congr 1
   simp[j5];omega
  exact⟨(e 0).trans this.1,(e 1).trans this.2.1,(e 2).trans (this.2.2.1.trans rfl),(e 3).trans this.2.2.2⟩
 |[],_,_,_,hi=>ay hi (ax _)
 |_::_,[],_,h,_=>by simp at h
theorem BR:∀{g:Gr} {ps:List Value} {a:Nat} (b:Nat),ps.length=g.length->a<g.length->(jk K g ps).set (a*4+3) (.int .i64 (b:Nat))=jk K (link g a b) ps
 |x::g,p::ps,0,b,_,_=>rfl
 |x::g,p::ps,a+1,b,h,c=>by
  have:=BR (g:=g) (ps:=ps) (a:=a) b (by simpa using h) (by simpa using c);have e:link (x::g) (a+1) b=x::link g a b:=rfl;rw[e];show(j5 K x p++jk K g ps).set ((a+1)*4+3) _=j5 K x p++jk K (link g a b) ps;rw[<-this,List.set_append_right _ _ (by simp[j5];omega)]
  congr 2
  simp[j5];omega
 |[],_,_,_,_,c=>ay c (ax _)
 |_::_,[],_,_,h,_=>by simp at h
end
def dw(w:World)(v:Value)(xs:List Nat):Prop:=
 ∃a cap,v=.slice a xs.length cap/\xs.length<=cap/\cap<=maxLen/\xs.length<=140737488355328/\(0<xs.length->∃b off cur f,a=some ⟨b,off,none⟩/\w.heap[b]? =some (.cells cur 3 f)/\∀i,i<xs.length->cur[off+i]? =some (.int .i64 ((xs[i]?.getD 0:Nat))))
def cX(xs:List Nat):List Int:=xs.map fun(x:Nat)=>(x:Int)
theorem eP(xs:List Nat):(cX xs).length=xs.length:=by simp[cX]
theorem ky(xs:List Nat)(i:Nat):cN (cX xs) i=((xs[i]?.getD 0:Nat):Int):=by
 unfold cN cX;rw[List.getElem?_map];cases xs[i]? <;>rfl
def lT(w w':World):Prop:=∀(b:Nat) (cur:Array Value) (f:Nat×Nat),w.heap[b]? =some (Obj.cells cur 3 f)->w'.heap[b]? =some (Obj.cells cur 3 f)
theorem lT.cB(h:Below w.heap.size w w'):lT w w':=λb _ _ e=>(h.block b (gE e).1).trans e
theorem dw.keep{xs:List Nat}(h:dw w v xs)(c:lT w w'):dw w' v xs:=by
 obtain⟨a,cap,d,e,g,i,j⟩:=h;refine⟨a,cap,d,e,g,i,λk=> ?_⟩;obtain⟨b,off,cur,f,l,m,hc⟩:=j k;exact⟨b,off,cur,f,l,c b cur f m,hc⟩
theorem dw.nil(w:World):dw w (.slice none 0 0) []:=⟨none,0,rfl,lR,by decide,by decide,λh=>ay h (dy _)⟩
theorem dw.ints{xs:List Nat}(h:dw w v xs):Ints w w.heap.size v (cX xs):=by
 obtain⟨a,cap,rfl,d,e,g,j⟩:=h;unfold Ints;rw[eP];refine⟨g,a,cap,rfl,d,e,λk=> ?_⟩;obtain⟨b,off,cur,f,rfl,c,hc⟩:=j k;refine⟨b,off,rfl,(gE c).1,λi hi=> ?_⟩;rw[cell_of_row _ _ _ _ _ _ c,hc i (by omega)];show _=some (Value.int .i64 (cN (cX xs) i));rw[ky]
theorem dw.slice{xs:List Nat}(h:dw w v xs):∃a c,v=.slice a xs.length c:=by obtain⟨a,cap,rfl,_⟩:=h;exact⟨_,_,rfl⟩
theorem dw.pF{base:Nat}{xs:List Nat}(h:w.ownsRow base 3 1 v n (cE (cX xs)))(a:xs.length<=140737488355328):dw w v xs:=by
 have b:xs.length=n:=by have:=h.1;rw[dJ,eP]at this;omega
 subst b;rcases h.2 with⟨rfl,c⟩|⟨g,cap,cur,rfl,_,d,e,f,k,j⟩
 ·exact⟨none,0,by rw[c],by omega,by decide,by omega,λh=>by omega⟩
 ·refine⟨_,cap,rfl,e,f,a,λ_=>⟨g,0,cur,_,rfl,d,λi hi=> ?_⟩⟩;have:(cur.toList.take (xs.length*1))[i]? =(cE (cX xs))[i]? :=by rw[j]
  rw[List.getElem?_take,aq (by omega),eH _ i (by rw[eP];exact hi),ky]at this;rw[a8];simpa using this
theorem dw.U3{b:Nat}{xs:List Nat}{f:Nat×Nat}(h:w.heap[b]? =some (.cells (cE (cX xs)).toArray 3 f))(a:xs.length<=1000000):dw w (.slice (some ⟨b,0,none⟩) xs.length xs.length) xs:=by
 refine⟨_,_,rfl,lR,by unfold maxLen;omega,by omega,λ_=>⟨b,0,_,_,rfl,h,λi hi=> ?_⟩⟩;rw[a8,aF,eH _ i (by rw[eP];exact hi),ky]
theorem dw.cell{xs:List Nat}(h:dw w v xs)(hi:i<xs.length):∃b off cap,v=.slice (some ⟨b,off,none⟩) xs.length cap/\b<w.heap.size/\w.cell? ⟨b,off+i,none⟩=some (.int .i64 ((xs[i]?.getD 0:Nat):Int)):=by
 obtain⟨a,cap,rfl,e,g,j,d⟩:=h;obtain⟨b,off,cur,f,rfl,c,hc⟩:=d (by omega);exact⟨b,off,cap,rfl,(gE c).1,by rw[cell_of_row _ _ _ _ _ _ c,hc i hi]⟩
structure ed (K:GK) (w:World) (base x:Nat) (g:Gr) (r:Option Nat) (v:Value) (ps:List Value):Prop where
 fW:w.heap[x]? =some (.cells #[v] K.T (0,0))
 row:v.ownBlock=r
 own:w.ownsRow base K.V 4 v g.length (jk K g ps)
 len:ps.length=g.length
 parts:∀i,i<g.length->dw w (ps[i]?.getD undef) (aX g i).parts
 base:base<=x
structure mR (x:Nat) (r r':Option Nat) (w w':World):Prop where
 os:w'.os=w.os
 tape:w'.tape=w.tape
 output:w'.output=w.output
 size:w.heap.size<=w'.heap.size
 same:∀(q:Nat) (o:Obj),w.heap[q]? =some o->q≠x->some q≠r->w'.heap[q]? =some o
 new:r'=r\/∃q,r'=some q/\w.heap.size<=q
namespace mR
variable {x:Nat} {r r1 r2:Option Nat} {a b c:World}
theorem refl(x:Nat)(r:Option Nat)(w:World):mR x r r w w:=⟨rfl,rfl,rfl,lR,λ_ _ h _ _=>h,.inl rfl⟩
theorem cB(x:Nat)(r:Option Nat)(h:Below a.heap.size a b):mR x r r a b:=
 ⟨h.os,h.tape,h.output,h.size,λq _ e _ _=>(h.block q (gE e).1).trans e,.inl rfl⟩
theorem trans(h:mR x r r1 a b)(h':mR x r1 r2 b c):mR x r r2 a c:=by
 refine⟨h'.os.trans h.os,h'.tape.trans h.tape,h'.output.trans h.output,ai h.size h'.size,λq o e d hr=> ?_,?_⟩
 ·refine h'.same q o (h.same q o e d hr) d ?_;exact anW
 ·exact an1
theorem below(h:mR x r r1 a b)(d:Below b.heap.size b c):mR x r r1 a c:=h.trans (cB x r1 d)
theorem toBelow(h:mR x r r1 a b)(f:B<=x)(c:∀q,r=some q->B<=q)(hB:B<=a.heap.size):Below B a b:=
 ⟨h.os,h.tape,h.output,h.size,λq d=>by
  have e:a.heap[q]? =some (a.heap[q]'(by omega)):=cD (by omega);rw[e];exact h.same q _ e (by omega) (λd=>by have:=c q d.symm;omega)⟩
end mR
def I5(K:GK):Obj->Prop
 | .cells _ t _=>t≠K.T/\t≠K.V
 |_=>True
section
variable {K:GK} {w w':World} {base x:Nat} {g:Gr} {r r':Option Nat} {v:Value} {ps:List Value}
theorem ed.ey(h:ed K w base x g r v ps){q:Nat}(b:r=some q):∃cur,w.heap[q]? =some (.cells cur K.V (0,0))/\base<=q:=by
 have a:=h.row;rcases h.own.2 with⟨rfl,_⟩|⟨g',cap,cur,rfl,c,d,_⟩
 ·rw[b]at a;cases a
 ·rw[b]at a;cases a;exact⟨cur,d,c⟩
theorem ed.lt(h:ed K w base x g r v ps):x<w.heap.size/\∀q,r=some q->q<w.heap.size:=⟨(gE h.fW).1,λq a=>by
 obtain⟨cur,hc,_⟩:=h.ey a;exact(gE hc).1⟩
theorem mR.keep(h:mR x r r' w w')(hg:ed K w base x g r v ps){q:Nat}{o:Obj}(ho:w.heap[q]? =some o)(hn:I5 K o):w'.heap[q]? =some o:=by
 refine h.same q o ho (λe=> ?_) (λe=> ?_)
 ·subst e;rw[hg.fW]at ho;cases ho;exact hn.1 rfl
 ·exact aoc
theorem mR.qU(h:mR x r r' w w')(a:ed K w base x g r v ps)(b:K.T≠3)(c:K.V≠3):lT w w':=λ_ _ _ e=>h.keep a e (by exact⟨λe=>b e.symm,λe=>c e.symm⟩)
theorem ed.toBelow(a:ed K w base x g r v ps)(h:mR x r r' w w')(hB:B<=base)(hw:B<=w.heap.size):Below B w w':=
 h.toBelow (ai hB a.base) (λq b=>by obtain⟨_,_,c⟩:=a.ey b;omega) hw
theorem ed.of_same(hg:ed K w base x g r v ps)(a:∀o,w.heap[x]? =some o->w'.heap[x]? =some o)(h2:∀q o,r=some q->w.heap[q]? =some o->w'.heap[q]? =some o)(b:lT w w'):ed K w' base x g r v ps:=by
 refine⟨a _ hg.fW,hg.row,⟨hg.own.1,?_⟩,hg.len,λi hi=>(hg.parts i hi).keep b,hg.base⟩;exact ana
theorem ed.below(c:ed K w base x g r v ps)(b:Below w.heap.size w w'):ed K w' base x g r v ps:=
 c.of_same (λo a=>(b.block x (gE a).1).trans a) (λq o _ a=>(b.block q (gE a).1).trans a) (lT.cB b)
theorem ed.cells(a:ed K w base x g r v ps)(e:n<g.length):∃rb cap p b,v=.slice (some ⟨rb,0,none⟩) g.length cap/\r=some rb/\rb<w.heap.size/\g.length<=cap/\cap<=maxLen/\
 w.cell? ⟨x,0,none⟩=some v/\w.frozen? ⟨x,0,none⟩=false/\
 w.cell? ⟨rb,n*4,none⟩=some (.int .i64 (K.sz (aX g n).sort))/\w.cell? ⟨rb,n*4+1,none⟩=some (.int .i64 (aX g n).n)/\w.cell? ⟨rb,n*4+2,none⟩=some (.slice p (aX g n).parts.length b)/\w.cell? ⟨rb,n*4+3,none⟩=some (.int .i64 (NH (aX g n).to))/\
 (∀j,w.frozen? ⟨rb,j,none⟩=false)/\dw w (.slice p (aX g n).parts.length b) (aX g n).parts/\ps[n]? =some (.slice p (aX g n).parts.length b):=by
 have i:=a.row;rcases a.own.2 with⟨_,o⟩|⟨rb,cap,cur,rfl,q,k,l,m,s,t⟩
 ·omega
 ·have c:w.ownsRow base K.V 4 (.slice (some ⟨rb,0,none⟩) g.length cap) g.length (jk K g ps):=a.own;obtain⟨c0,c1,c2,c3⟩:=D9 (K:=K) a.len e;have hp:=a.parts n e;have f:n<ps.length:=by rw[a.len];exact e
  rw[ae f]at c2 hp;obtain⟨p,b,d⟩:=hp.slice;have d:ps[n]=.slice p (aX g n).parts.length b:=d;rw[bK,d]at hp;rw[d]at c2;refine⟨rb,cap,p,b,rfl,i.symm,(gE k).1,l,m,?_,?_,?_,?_,?_,?_,λj=>c.frozenAt j,hp,by rw[ae f,d]⟩
  ·rw[cell_of_row _ _ _ _ _ _ a.fW];rfl
  ·simp[World.frozen?,a.fW]
  ·rw[c.cellAt _ (by omega),c0]
  ·rw[c.cellAt _ (by omega),c1]
  ·rw[c.cellAt _ (by omega),c2]
  ·rw[c.cellAt _ (by omega),c3]
theorem ed.link(hg:ed K w base x g r v ps)(n:K.T≠3)(s:K.V≠3)(h3:K.T≠K.V){a b rb:Nat}(j:a<g.length)(d:r=some rb):
 ed K (w.setCell ⟨rb,a*4+3,none⟩ (.int .i64 (b:Nat))) base x (link g a b) r v ps/\mR x r r w (w.setCell ⟨rb,a*4+3,none⟩ (.int .i64 (b:Nat))):=by
 obtain⟨t,cap,p,y,rfl,k,z,_,_,_⟩:=hg.cells j;rw[d]at k;cases k;obtain⟨l,c⟩:=World.ownsRow.stored hg.own (a*4+3) (.int .i64 (b:Nat));rw[BR b hg.len j]at l;have m:mR x r r w (w.setCell ⟨rb,a*4+3,none⟩ (.int .i64 (b:Nat))):=⟨c.os,c.tape,c.output,c.size,λq o e _ G=>(c.block q (gE e).1 (by rw[<-d];exact G)).trans e,.inl rfl⟩;have u:=m.qU hg n s;obtain⟨cur,hc,_⟩:=hg.ey d;have f:x≠rb:=λe=>by
  subst e;exact aog
 refine⟨⟨(c.block x (hg.lt.1) (λe=>f (by cases e;rfl))).trans hg.fW,hg.row,by rw[dP];exact l,by rw[dP];exact hg.len,λi hi=> ?_,hg.base⟩,m⟩;rw[dP]at hi;have:(aX (Go.Proofs.YtnicceekibancaaGreat.link g a b) i).parts=(aX g i).parts:=(lP g a b i).2.2;rw[this];exact(hg.parts i hi).keep u
end
end
section
open Go Go.RowKit
attribute [local go_sem] aT cW df
theorem eQ(n l h:Int)(w:World):
 Calls Tryz.prog 151 #[.int .i64 n,.int .i64 l,.int .i64 h] w λe w'=>e=.returned (.bool (fX n l h))/\w'=w:=by
 go_enter Tryz.func151,Tryz.ntmps151
 by_cases a:l<=n
 all_goals by_cases b:n<=h
 all_goals go_wp2;go_ret
 all_goals exact⟨by simp[fX, *],rfl⟩
theorem pH(n l h:Int)(w:World):
 Calls Tryz.prog 194 #[.int .i64 n,.int .i64 l,.int .i64 h] w λe w'=>e=.returned (.bool (fX n l h))/\w'=w:=by
 go_enter Tryz.func194,Tryz.ntmps194
 by_cases a:l<=n
 all_goals by_cases b:n<=h
 all_goals go_wp2;go_ret
 all_goals exact⟨by simp[fX, *],rfl⟩
theorem qV(n l h:Int)(w:World):
 Calls Tryz.prog 176 #[.int .i64 n,.int .i64 l,.int .i64 h] w λe w'=>e=.returned (.bool (fX n l h))/\w'=w:=by
 go_enter Tryz.func176,Tryz.ntmps176
 by_cases a:l<=n
 all_goals by_cases b:n<=h
 all_goals go_wp2;go_ret
 all_goals exact⟨by simp[fX, *],rfl⟩
theorem yd(s:ByteArray)(w:World)(a:s.size<=140737488355328):
 Calls Tryz.prog 202 #[.string s] w λe w'=>e=.returned (.bool (eV s))/\w'=w:=by
 go_enter Tryz.func202,Tryz.ntmps202
 go_wp2
 go_loop [3] (λi=>∃k:Nat,k<=s.size/\i=.int .i64 k/\∀j,j<k->∀h:j<s.size,rP s[j].toNat=true) (λi=>s.size-(intOf i).toNat)
 case atStart=>exact⟨0,aw _,rfl,λj hj=>ay hj (ax _)⟩
 case round=>
  exact amo
theorem lq(s:ByteArray)(w:World)(a:s.size<=140737488355328):
 Calls Tryz.prog 188 #[.string s] w λe w'=>e=.returned (.bool (eV s))/\w'=w:=by
 go_enter Tryz.func188,Tryz.ntmps188
 go_wp2
 go_loop [3] (λi=>∃k:Nat,k<=s.size/\i=.int .i64 k/\∀j,j<k->∀h:j<s.size,rP s[j].toNat=true) (λi=>s.size-(intOf i).toNat)
 case atStart=>exact⟨0,aw _,rfl,λj hj=>ay hj (ax _)⟩
 case round=>
  exact amo
theorem adB(s:ByteArray)(pos:Nat)(h:pos<s.size):1<=(Utf8.decode s pos).2:=by
 by_cases a:(s[pos]'h).toNat<128
 ·rw[decode_ascii s pos h a];exact lR
 ·exact(decode_high s pos h (by omega)).2
theorem BS(s:ByteArray)(w:World)(f:s.size<=140737488355328):aH Tryz.prog 193 #[.string s] w (.bool (eV s)):=by
 unfold aH;have HB:Hd (∀k,Below w.heap.size w (w.iter s k)):=hI λk=>Below.cA _ _
 go_enter Tryz.func193,Tryz.ntmps193
 go_wp2
 go_loopw [] (λwr=>∃k:Nat,k<=s.size/\wr=w.iter s k/\∀j,j<k->∀h:j<s.size,rP s[j].toNat=true) (λwr=>s.size-wr.iterPos w.heap.size)
 case atStart=>exact⟨0,aw _,rfl,λj hj=>ay hj (ax _)⟩
 case round=>
  obtain⟨k,g,rfl,G⟩:=hrel;have dK:=hI G;clear G;by_cases bO:k<s.size
  ·by_cases b:(s[k]'bO).toNat<128
   ·have c:∀ty,(Instr.next (.pointer (some ⟨w.heap.size,0,none⟩)) true ty).run Tryz.prog (w.iter s k)=_:=λty=>run_next_ascii w s k ty bO b;clear b;rcases sH s[k].toNat s[k].toNat_lt with⟨a,fS⟩|⟨a,d,fS⟩|⟨a,d,fS⟩|⟨a,d,fS⟩|⟨a,fS⟩
    ·have g1:decide ((s[k].toNat:Int)<65)=true:=by simp;omega
     have g2:decide ((s[k].toNat:Int)<97)=true:=by simp;omega
     have g3:decide ((65:Int)<=(s[k].toNat:Int))=false:=by simp;omega
     have g4:decide ((97:Int)<=(s[k].toNat:Int))=false:=by simp;omega
     exact anl
    ·have g1:decide ((s[k].toNat:Int)<65)=false:=by simp;omega
     have g2:decide ((s[k].toNat:Int)<97)=true:=by simp;omega
     have g3:decide ((65:Int)<=(s[k].toNat:Int))=true:=by simp;omega
     have g4:decide ((97:Int)<=(s[k].toNat:Int))=false:=by simp;omega
     have g5:decide ((90:Int)<(s[k].toNat:Int))=false:=by simp;omega
     have g6:decide ((s[k].toNat:Int)<=90)=true:=by simp;omega
     exact anB
    ·have g1:decide ((s[k].toNat:Int)<65)=false:=by simp;omega
     have g2:decide ((s[k].toNat:Int)<97)=true:=by simp;omega
     have g3:decide ((65:Int)<=(s[k].toNat:Int))=true:=by simp;omega
     have g4:decide ((97:Int)<=(s[k].toNat:Int))=false:=by simp;omega
     have g5:decide ((90:Int)<(s[k].toNat:Int))=true:=by simp;omega
     have g6:decide ((s[k].toNat:Int)<=90)=false:=by simp;omega
     exact anl
    ·have g2:decide ((s[k].toNat:Int)<97)=false:=by simp;omega
     have g4:decide ((97:Int)<=(s[k].toNat:Int))=true:=by simp;omega
     have g5:decide ((122:Int)<(s[k].toNat:Int))=false:=by simp;omega
     have g6:decide ((s[k].toNat:Int)<=122)=true:=by simp;omega
     exact anB
    ·have g1:decide ((s[k].toNat:Int)<65)=false:=by simp;omega
     have g2:decide ((s[k].toNat:Int)<97)=false:=by simp;omega
     have g3:decide ((65:Int)<=(s[k].toNat:Int))=true:=by simp;omega
     have g4:decide ((97:Int)<=(s[k].toNat:Int))=true:=by simp;omega
     have g5:decide ((122:Int)<(s[k].toNat:Int))=true:=by simp;omega
     have g6:decide ((s[k].toNat:Int)<=122)=false:=by simp;omega
     have g7:decide ((90:Int)<(s[k].toNat:Int))=true:=by simp;omega
     have g8:decide ((s[k].toNat:Int)<=90)=false:=by simp;omega
     exact anl
   ·have c:∀ty,(Instr.next (.pointer (some ⟨w.heap.size,0,none⟩)) true ty).run Tryz.prog (w.iter s k)=_:=λty=>run_next_any w s k ty bO;have fS:rP s[k].toNat=false:=by unfold rP;simp;omega
    have a:=decode_high s k bO (by omega);obtain⟨r,d⟩:=xE ((Utf8.decode s k).1);rw[<-d]at c a;have g1:decide ((97:Int)<=(r:Int))=true:=by simp;omega
    have g2:decide ((r:Int)<=122)=false:=by simp;omega
    have g3:decide ((65:Int)<=(r:Int))=true:=by simp;omega
    have g4:decide ((r:Int)<=90)=false:=by simp;omega
    clear b a d;exact anl
  ·have c:∀ty,(Instr.next (.pointer (some ⟨w.heap.size,0,none⟩)) true ty).run Tryz.prog (w.iter s k)=_:=λty=>run_next_end w s k ty bO;have G:k=s.size:=by omega
   subst G;have HY:=hI (oO (sI λj hj=>dK.o j hj hj))
   go_wp2_with (first|(go_at_call 194;refine(pH _ _ _ _).mono ?_;rintro e w' ⟨rfl,rfl⟩))
   go_ret;exact⟨by rw[HY.o];rfl,HB.o _⟩
theorem ZV(c:Nat):(fX (c:Int) 97 122||fX (c:Int) 65 90)=rP c:=by
 unfold fX rP
 congr 1<;>congr 1
 all_goals
  rw[decide_eq_decide];omega
theorem I6(s:ByteArray)(w:World)(r:s.size<=140737488355328):aH Tryz.prog 179 #[.string s] w (.bool (eV s)):=by
 unfold aH;have b:=run_bytes_of_string (P:=Tryz.prog) w 9 257 5 s Tryz.underlying9 Tryz.underlying257 Tryz.underlying5;obtain⟨W,a⟩:=xE (w.drew.alloc (.cells (bytesRow s (grownCap w s.size 0 5)) 5 ((bytesRow s (grownCap w s.size 0 5)).size,(bytesRow s (grownCap w s.size 0 5)).size+1)));rw[<-a]at b;obtain⟨cap,G⟩:∃c,c=grownCap w s.size 0 5:=⟨_,rfl⟩;rw[<-G]at b;have p:Hd (∀k (h:k<s.size),W.cell? ⟨w.heap.size,k,none⟩=some (.int .u8 (s[k].toNat:Int))):=hI λk h=>by
  rw[a,show w.heap.size=w.drew.heap.size from rfl,World.cell?_alloc_mark,bytesRow_at s _ k (by simpa using h)]
  rfl
 have n:Hd (Below w.heap.size w W):=hI (by rw[a];exact(Below.ia bR).alloc lR _);clear a G
 go_enter Tryz.func179,Tryz.ntmps179
 go_wp2
 go_loop [8] (λi=>∃k:Nat,k<=s.size/\i=.int .i64 k/\∀j,j<k->∀h:j<s.size,rP s[j].toNat=true) (λi=>s.size-(intOf i).toNat)
 case atStart=>exact⟨0,aw _,rfl,λj hj=>ay hj (ax _)⟩
 case round=>
  obtain⟨k,t,rfl,G⟩:=hrel;have dK:=hI G;clear G b;by_cases o:k<s.size
  ·have c0:=p.o k o;have G:=ZV s[k].toNat;obtain⟨c,hc⟩:=xE (s[k].toNat);have u:c<256:=by rw[hc];exact s[k].toNat_lt
   have q:Hd (rP c=false->eV s=false):=hI λh=>ji o (by rw[<-hc];exact h);have g:Hd (rP c=true->rP s[k].toNat=true):=hI λh=>by rw[<-hc];exact h
   rw[<-hc]at c0 G;have l:=hI G;clear hc G;cases a:fX (c:Int) 97 122
   case true=>
    have HY2:=hI (g.o (by rw[<-l.o,a];rfl));have f:=hI a;clear a
    go_wp2_with (go_at_call 176;refine(qV _ _ _ _).mono ?_;rintro e w' ⟨rfl,rfl⟩;rw[f.o])
    exact anG
   case false=>
    cases d:fX (c:Int) 65 90
    case true=>
     obtain⟨HY2,f,m⟩:=h_3 (g.o (by rw[<-l.o,a,d];rfl)) a d;clear a d
     go_wp2_with (go_at_call 176;refine(qV _ _ _ _).mono ?_;rintro e w' ⟨rfl,rfl⟩;first|rw[f.o]|rw[m.o])
     exact anG
    case false=>
     obtain⟨G,f,m⟩:=h_3 (q.o (by rw[<-l.o,a,d];rfl)) a d;clear a d
     go_wp2_with (go_at_call 176;refine(qV _ _ _ _).mono ?_;rintro e w' ⟨rfl,rfl⟩;first|rw[f.o]|rw[m.o])
     go_ret;exact⟨by rw[G.o];rfl,n.o⟩
  ·have G:k=s.size:=by omega
   subst G;have g:=hI (oO (sI λj hj=>dK.o j hj hj))
   go_wp2_with (go_at_call 176;refine(qV _ _ _ _).mono ?_;rintro e w' ⟨rfl,rfl⟩)
   go_ret;exact⟨by rw[g.o];rfl,n.o⟩
def nF(l:List ByteArray)(x:ByteArray):Bool:=l.any λy=>decide (y=x)
def gK:List ByteArray->List sr->Bool
 |_,[]=>true
 |bs,x::l=> !nF bs x.name&&(eV x.name&&fX x.args 0 4)&&gK (bs++[x.name]) l
theorem sM(bs:List ByteArray)(x:sr)(l:List sr):gK bs (x::l)=(!nF bs x.name&&(eV x.name&&fX x.args 0 4)&&gK (bs++[x.name]) l):=rfl
def uy(l:List sr)(k:Nat):List ByteArray:=(l.take k).map (·.name)
theorem Ea(h:k<l.length):uy l (k+1)=uy l k++[(bS l k).name]:=by
 unfold uy bS;rw[aV h,bA,ae h];rfl
theorem KM{bs:List ByteArray}(h:k<l.length):
 gK (bs++uy l k) (l.drop k)=(!nF (bs++uy l k) (bS l k).name&&(eV (bS l k).name&&fX (bS l k).args 0 4)&&gK (bs++uy l (k+1)) (l.drop (k+1))):=by
 have e:bS l k=l[k]:=by unfold bS;rw[ae h];rfl
 rw[bI h,Ea h,sM,aG,e]
def uR(l:List ByteArray)(i:Nat):ByteArray:=l[i]?.getD default
def F8(w:World)(B:Nat)(v:Value)(l:List ByteArray):Prop:=Row w B 1 v l.length (λi=>.string (uR l i))
def pI(l:List ByteArray):List Value:=l.map .string
theorem zN(l:List ByteArray):(pI l).length=l.length:=by simp[pI]
theorem zO(l:List ByteArray)(i:Nat)(h:i<l.length):(pI l)[i]? =some (.string (uR l i)):=by simp[pI,uR,h]
theorem KN(l:List ByteArray):∀u∈pI l,u.oneCell'=true:=by intro u hu;obtain⟨x,_,rfl⟩:=aN.1 hu;rfl
theorem KO{l:List ByteArray}{x:ByteArray}(h:i<l.length)(e:uR l i=x):nF l x=true:=by
 unfold nF;rw[List.any_eq_true];refine⟨l[i],aR h,aI ?_⟩;rw[<-e];unfold uR;rw[ae h];rfl
theorem P7{l:List ByteArray}{x:ByteArray}(h:∀i,i<l.length->uR l i≠x):nF l x=false:=by
 unfold nF;rw[b5];intro hc;obtain⟨y,hy,e⟩:=List.any_eq_true.1 hc;obtain⟨i,hi,rfl⟩:=bC.1 hy;refine h i hi ?_;unfold uR;rw[ae hi];exact bu e
theorem Tryz.P8:(Tryz.prog.info? 9).map (λi=>(i.zero,i.size,i.bytes))=some (some (.string ⟨#[]⟩),1,16):=by kernel_rfl
abbrev adC:Oper:=⟨some 46,.move (.tmp 1),207,a7,#[],none⟩
abbrev adD:Oper:=⟨some 47,.call ⟨.builtin .append,#[.const (.slice none 0 0),.tmp 46],#[207,207]⟩,207,a7,#[aj 0],none⟩
abbrev adE:Oper:=⟨some 48,.move (.tmp 0),37,a7,#[],none⟩
abbrev adF:Oper:=⟨some 49,.move (.tmp 6),3,a7,#[],none⟩
abbrev adG:Oper:=⟨some 50,.indexAddr 37 (.tmp 48) (.tmp 49),0,a7,#[aj 2,aj 3],none⟩
abbrev adH:Oper:=⟨some 51,.fieldAddr 163 (.tmp 50) 0,0,a7,#[aj 4],none⟩
abbrev adI:Oper:=⟨some 52,.load 9 (.tmp 51),9,a7,#[aj 5],none⟩
abbrev adJ:Oper:=⟨some 53,.buildSlice 207 1 #[(0,.tmp 52)],207,a7,#[aj 6],none⟩
abbrev adK:Oper:=⟨some 54,.call ⟨.builtin .append,#[.tmp 47,.tmp 53],#[207,207]⟩,207,a7,#[aj 1,aj 7,ao 1],none⟩
abbrev adL:Oper:=⟨some 1,.assign (.tmp 54),207,a7,#[aj 8,ao 8,al 0,al 1,al 2,al 3,al 4,al 5,al 6,al 7,al 8],none⟩
def ZW:Array Oper:= #[adC,adD,adE,adF,adG,adH,adI,adJ,adK,adL]
def adM(w:World)(bs:List ByteArray)(l:List sr)(e:Ending)(w':World):Prop:=
 Below w.heap.size w w'/\∃v,e=.returned (.tuple #[v,.bool (gK bs l)])/\(gK bs l=true->F8 w' w'.heap.size v (bs++uy l l.length))
theorem GR(bs:List ByteArray)(l:List sr)(bv lv:Value)(w:World)(B:Nat)(t:F8 w B bv bs)(Q:gD w B lv l)(hB:B<=w.heap.size)(Bc:bs.length+l.length<=1000):
 Calls Tryz.prog 152 #[lv,bv] w (adM w bs l):=by
 have HL:=hI (Q.mono hB);obtain⟨la,lc,rfl⟩:=Q.slice;have P9:=hI (Row.mono t hB);clear Q t
 go_enter Tryz.func152,Tryz.ntmps152
 go_wp2
 go_loopw [1,6] (λb i wr=>∃k:Nat,k<=l.length/\i=.int .i64 k/\F8 wr wr.heap.size b (bs++uy l k)/\gK bs l=gK (bs++uy l k) (l.drop k)/\Below w.heap.size w wr) (λ_ i _=>l.length-(intOf i).toNat)
 case atStart=>exact⟨0,aw _,rfl,by rw[show uy l 0=[]from rfl,bk];exact P9.o,by rw[show uy l 0=[]from rfl,bk];rfl,bR⟩
 case round=>
  obtain⟨k,N,rfl,E,he,t⟩:=hrel;have HE:=hI he;have R:=hI t;have hw0:w.heap.size<=wr.heap.size:=t.size;by_cases O:k<l.length
  ·have u:=he.trans (KM (bs:=bs) O);have a:=Ea O;obtain⟨nb,no,ahk,uS,hnB,F,P,T⟩:=fJ HL.o t O;cases uS;obtain⟨uc,G⟩:∃b,b=bs++uy l k:=⟨_,rfl⟩;have hlen:uc.length<=1000:=by rw[G];simp[uy];omega
   rw[<-G]at E u;obtain⟨_,ba,bc,rfl,_,_,c⟩:=id E;obtain⟨U,H,I7⟩:=h_3 E u c;have P_:Hd (bs++uy l (k+1)=uc++[(bS l k).name]):=hI (by rw[a,G,aG]);have N0:=hI F;have N1:=hI P;clear E u c G a he t F P HE;go_wp2;obtain⟨I,rfl⟩:∃I:World,I=wr:=⟨_,rfl⟩
   go_loopw [7] (λj G=>∃q:Nat,q<=uc.length/\j=.int .i64 q/\(∀i,i<q->uR uc i≠(bS l k).name)/\Below I.heap.size I G) (λj _=>uc.length-(intOf j).toNat)
   case atStart=>exact⟨0,aw _,rfl,λi hi=>ay hi (ax _),bR⟩
   case round=>
    obtain⟨q,hq,rfl,eC,g⟩:=hrel;have F:wr.cell? ⟨nb,no+k*2,none⟩=some (.string (bS l k).name):=(g.cell (p:=⟨nb,no+k*2,none⟩) (by show nb<I.heap.size;omega)).trans N0.o;have P:wr.cell? ⟨nb,no+k*2+1,none⟩=some (.int .i64 (bS l k).args):=(g.cell (p:=⟨nb,no+k*2+1,none⟩) (by show nb<I.heap.size;omega)).trans N1.o;have zn:nb<wr.heap.size:=af F;have GS:=hI eC;by_cases W:q<uc.length
    ·obtain⟨b,off,rfl,u,G⟩:=I7.o (by omega);have c0:wr.cell? ⟨b,off+q,none⟩=some (.string (uR uc q)):=(g.cell (p:=⟨b,off+q,none⟩) u).trans (G q (by omega));have n:b<wr.heap.size:=af c0;have r:(k:Int)<(l.length:Int):=by omega
     have c:(q:Int)<(uc.length:Int):=by omega
     have yV:=hI g;clear G eC g;by_cases heq:uR uc q=(bS l k).name
     ·have d:((uR uc q).toList==(bS l k).name.toList)=true:=by rw[sL];exact aI heq
      have HF:Hd (gK bs l=false):=hI (by rw[H.o,KO W heq];rfl);clear heq
      go_wp2_with fail
      refine aM (by kernel_rfl) (by kernel_rfl) ?_
      repeat go_big_quiet_step (fail)
      refine wpQuiet_nil ?_;intro f G;have a:=hI (ag R.o (ag yV.o G lR) lR);clear G;go_wp2
      go_ret2
      exact⟨a.o,_,by rw[HF.o];rfl,λh=>by rw[HF.o]at h;cases h⟩
     ·have d:((uR uc q).toList==(bS l k).name.toList)=false:=by rw[sL];exact aB heq
      have m:=hI heq;clear heq
      go_wp2_with fail
      refine aM (by kernel_rfl) (by kernel_rfl) ?_
      repeat go_big_quiet_step (fail)
      refine wpQuiet_nil ?_;intro f G;have a:=hI (ag yV.o G lR);clear G;go_wp2
      go_roundw
      case rel=>exact⟨q+1,by omega,by go_num,λi hi=>if h:i=q then h ▸ m.o else GS.o i (by omega),a.o⟩
      case measure=>simp[intOf];omega
    ·have X:q=uc.length:=by omega
     subst X;have G:=P7 GS.o;rw[G]at H;have yV:=hI (ag R.o g lR);have aj8:=hI (Row.mono (U.o.below g lR) g.size);have hw7:w.heap.size<=wr.heap.size:=by have:=g.size;omega
     clear eC g G;cases a:eV (bS l k).name
     case false=>
      have HF:Hd (gK bs l=false):=hI (by rw[H.o,a];rfl);have M:=hI a;clear a
      go_wp2_with (go_at_call 202;refine(yd _ _ T).mono ?_;rintro e w' ⟨rfl,c⟩;rw[c,M.o];clear c w')
      exact aoe
     case true=>
      cases J:fX (bS l k).args 0 4
      case false=>
       have HF:Hd (gK bs l=false):=hI (by rw[H.o,a,J];rfl);have M:=hI a;have HM:=hI J;clear a J
       go_wp2_with (first|(go_at_call 202;refine(yd _ _ T).mono ?_;rintro e w' ⟨rfl,c⟩;rw[c,M.o];clear c w')|(go_at_call 151;refine(eQ _ _ _ _).mono ?_;rintro e w' ⟨rfl,c⟩;rw[c,HM.o];clear c w'))
       exact aoe
      case true=>
       have ahl:Hd (gK bs l=gK (bs++uy l (k+1)) (l.drop (k+1))):=hI (by rw[H.o,a,J];rfl);have M:=hI a;have HM:=hI J;clear a J H I7
       go_wp2_with (first|(go_at_call 202;refine(yd _ _ T).mono ?_;rintro e w' ⟨rfl,c⟩;rw[c,M.o];clear c w')|(go_at_call 151;refine(eQ _ _ _ _).mono ?_;rintro e w' ⟨rfl,c⟩;rw[c,HM.o];clear c w'))
       have HN0:Hd (∀Y,Below w.heap.size w Y->Y.cell? ⟨nb,no+k*2,none⟩=some (.string (bS l k).name)):=hI λY m=>(fJ HL.o m O).elim λ_ h=>by
        obtain⟨_,_,he,_,hc,_⟩:=h;cases he;exact hc
       refine wp_region_held_drew (S:=λV=>V.cell? ⟨nb,no+k*2,none⟩=some (.string (bS l k).name)) (by kernel_rfl) F (λhHeld=> ?_)
       change wpAnyH _ _ ZW _ _ _ _ _ _
       refine kL (λZ=>Below wr.heap.size wr Z) (Below.ia (Below.refl wr.heap.size wr)) hHeld ?_;clear hHeld;rintro V G hHeld;have ud:=hI G;have NJ:Hd (∀Y,Below V.heap.size V Y->Row Y Y.heap.size 1 (.slice ba uc.length bc) uc.length (λi=>.string (uR uc i))):=hI λY m=>Row.mono (aj8.o.below (ag G m lR) lR) (by have:=G.size;have:=m.size;omega);have jY:=hI G.size;clear G F P;refine qA 0 ⟨some 46,.move (.tmp 1),207,a7,#[],none⟩ hHeld ?_;refine qA 2 ⟨some 48,.move (.tmp 0),37,a7,#[],none⟩ hHeld ?_;refine qA 3 ⟨some 49,.move (.tmp 6),3,a7,#[],none⟩ hHeld ?_;refine qA 4 ⟨some 50,.indexAddr 37 (.tmp 48) (.tmp 49),0,a7,#[aj 2,aj 3],none⟩ hHeld ?_;refine qA 5 ⟨some 51,.fieldAddr 163 (.tmp 50) 0,0,a7,#[aj 4],none⟩ hHeld ?_;refine qA 6 ⟨some 52,.load 9 (.tmp 51),9,a7,#[aj 5],none⟩ hHeld ?_;refine wpAnyH_ready (rs:=[1,7]) (by kernel_rfl) (by simp) ?_;refine AllReadyH.cons (o:=⟨some 47,.call ⟨.builtin .append,#[.const (.slice none 0 0),.tmp 46],#[207,207]⟩,207,a7,#[aj 0],none⟩) rfl (λK hK=> ?_) (AllReadyH.cons (o:=⟨some 53,.buildSlice 207 1 #[(0,.tmp 52)],207,a7,#[aj 6],none⟩) rfl (λK hK=> ?_) AllReadyH.nil)
       ·rw[aq (by rfl)];obtain⟨v,x,y,z,A⟩:=info_parts Tryz.P8;refine eU _ _ 207 rfl V.heap.size 9 v _ 1 16 Tryz.underlying207 x y z A rfl (by decide) (.slice none 0 0) 0 [] rfl (aZ _ _ _ _) (.slice ba uc.length bc) uc.length (λi=>.string (uR uc i)) V.heap.size rfl (NJ.o V bR) (pI uc) (by rw[zN,Nat.mul_one]) (λj hj=>zO uc j (by omega)) (KN uc) (by unfold maxLen;omega) (by omega) lR ?_;intro v1 d r f _;have a:Below V.heap.size V d:=⟨f.os,f.tape,f.output,f.size,λk N=>f.block k N (by simp[Value.ownBlock])⟩;obtain⟨U5,U6,rfl⟩:=cr r;rw[a8]at r |-;have L:=hI a;have U7:=hI r;have hS1:=(a.cell (p:=⟨nb,no+k*2,none⟩) (by have:=af hHeld;exact this)).trans hHeld;clear a r f;refine qK hK (hS1) λhHeld=> ?_;clear hK K;clear hS1;refine qR 7 ⟨some 53,.buildSlice 207 1 #[(0,.tmp 52)],207,a7,#[aj 6],none⟩ λK hK=> ?_;go_simp;obtain⟨s,C⟩:=qS d (.cells #[.string (bS l k).name] 9);refine qK hK ((s.cell (p:=⟨nb,no+k*2,none⟩) (by have:=af hHeld;exact this)).trans hHeld) λhHeld=> ?_;clear hK K;obtain⟨n,m⟩:∃Y,Y=d.alloc (.cells #[.string (bS l k).name] 9):=⟨_,rfl⟩;rw[<-m]at s C hHeld |-;have D:=hI s;have iK:=hI C;clear m s C;have G:=gC U7.o (CK.below D.o);have zP:=hI G;have U8:=hI iK.o;have qW:Hd (Below w.heap.size w n):=hI (ag (ag (ag yV.o ud.o lR) L.o lR) D.o lR);have NK:Hd (V.heap.size<=n.heap.size):=hI (by have:=L.o.size;have:=D.o.size;omega);have HS9:Hd (w.heap.size<=n.heap.size):=hI qW.o.size;have HT9:Hd (w.heap.size<=V.heap.size):=hI (by have:=jY.o;omega);clear G;refine qR 8 ⟨some 54,.call ⟨.builtin .append,#[.tmp 47,.tmp 53],#[207,207]⟩,207,a7,#[aj 1,aj 7,ao 1],none⟩ λK hK=> ?_;rw[aq (by rfl)];obtain⟨v,x,y,z,A⟩:=info_parts Tryz.P8;refine wp_append_own n _ _ 207 rfl V.heap.size 9 v _ 1 16 Tryz.underlying207 x y z A rfl (by decide) (.slice U5 uc.length U6) uc.length ([]++pI uc) rfl zP.o ⟨d.heap.size,0,none⟩ 1 1 [.string (bS l k).name] rfl rfl ?_ ?_ (by unfold maxLen;omega) (by omega) NK.o ?_
        ·exact am7
        ·exact one_one rfl
        exact amB
       ·go_simp;obtain⟨s,C⟩:=qS V (.cells #[.string (bS l k).name] 9);refine qK hK ((s.cell (p:=⟨nb,no+k*2,none⟩) (by have:=af hHeld;exact this)).trans hHeld) λhHeld=> ?_;clear hK K;obtain⟨d,m⟩:∃Y,Y=V.alloc (.cells #[.string (bS l k).name] 9):=⟨_,rfl⟩;rw[<-m]at s C hHeld |-;have D:=hI s;have iK:=hI C;clear m s C;refine qR 1 ⟨some 47,.call ⟨.builtin .append,#[.const (.slice none 0 0),.tmp 46],#[207,207]⟩,207,a7,#[aj 0],none⟩ λK hK=> ?_;rw[aq (by rfl)];obtain⟨v,x,y,z,A⟩:=info_parts Tryz.P8;refine eU _ _ 207 rfl d.heap.size 9 v _ 1 16 Tryz.underlying207 x y z A rfl (by decide) (.slice none 0 0) 0 [] rfl (aZ _ _ _ _) (.slice ba uc.length bc) uc.length (λi=>.string (uR uc i)) d.heap.size rfl (NJ.o d D.o) (pI uc) (by rw[zN,Nat.mul_one]) (λj hj=>zO uc j (by omega)) (KN uc) (by unfold maxLen;omega) (by omega) lR ?_;intro v1 n r f _;have a:Below d.heap.size d n:=⟨f.os,f.tape,f.output,f.size,λk N=>f.block k N (by simp[Value.ownBlock])⟩;obtain⟨U5,U6,rfl⟩:=cr r;rw[a8]at r |-;have L:=hI a;have U7:=hI r;have hS1:=(a.cell (p:=⟨nb,no+k*2,none⟩) (by have:=af hHeld;exact this)).trans hHeld;clear a r f;refine qK hK (hS1) λhHeld=> ?_;clear hK K;clear hS1;have G:=cY L.o iK.o;have zP:=hI U7.o;have U8:=hI G;have qW:Hd (Below w.heap.size w n):=hI (ag (ag (ag yV.o ud.o lR) D.o lR) L.o lR);have NK:Hd (d.heap.size<=n.heap.size):=hI L.o.size;have HS9:Hd (w.heap.size<=n.heap.size):=hI qW.o.size;have HT9:Hd (w.heap.size<=d.heap.size):=hI (by have:=jY.o;have:=D.o.size;omega);clear G;refine qR 8 ⟨some 54,.call ⟨.builtin .append,#[.tmp 47,.tmp 53],#[207,207]⟩,207,a7,#[aj 1,aj 7,ao 1],none⟩ λK hK=> ?_;rw[aq (by rfl)];obtain⟨v,x,y,z,A⟩:=info_parts Tryz.P8;refine wp_append_own n _ _ 207 rfl d.heap.size 9 v _ 1 16 Tryz.underlying207 x y z A rfl (by decide) (.slice U5 uc.length U6) uc.length ([]++pI uc) rfl zP.o ⟨V.heap.size,0,none⟩ 1 1 [.string (bS l k).name] rfl rfl ?_ ?_ (by unfold maxLen;omega) (by omega) NK.o ?_
        ·exact am7
        ·exact one_one rfl
        exact amB
  ·have G:k=l.length:=by omega
   subst G;have HF:Hd (gK bs l=true):=hI (by rw[HE.o,List.drop_length];rfl);have U:=hI E;clear E he t;go_wp2
   go_ret2
   exact⟨R.o,_,by rw[HF.o];rfl,λ_=>U.o⟩
def Be(x:sr)(s:ByteArray):Bool:=decide (x.name=s)&&x.args==0
def oq:ByteArray:={ data:= #[70,97,108,115,101]}
def uU:ByteArray:={ data:= #[84,114,117,101]}
theorem NL:(Tryz.prog.fieldsOf 163).toList.map (λf=>(f.name,f.type,f.offset))=[("Name",9,0),("Args",3,1)]:=by kernel_rfl
theorem KQ{P:Program}(hT:P.underlying T=some .string)(xs:Array Value)(o:Nat)(x:Value)(hx:xs[o]? =some x)(w:World):(part T xs o).run P w=.ok x w:=by
 exact anH
theorem Eb{P:Program}{k:IntKind}(hT:P.underlying T=some (.int k))(xs:Array Value)(o:Nat)(x:Value)(hx:xs[o]? =some x)(w:World):(part T xs o).run P w=.ok x w:=by
 exact anH
theorem I8(d:Nat)(fs:List Field)(a b:ByteArray)(n m:Int)(w:World)(h:fs.map (λf=>(f.name,f.type,f.offset))=[("Name",9,0),("Args",3,1)]):
 (Op.eqFields (d+1) #[.string a,.int .i64 n] #[.string b,.int .i64 m] fs).run Tryz.prog w=.ok (decide (a=b)&&n==m) w:=by
 rcases fs with _|⟨f1,_|⟨f2,_|⟨f3,fs⟩⟩⟩
 ·simp at h
 ·simp at h
 ·simp only[bz,List.map_nil,List.cons.injEq,Prod.mk.injEq,and_true]at h;obtain⟨⟨g,i,j⟩,k,l,o⟩:=h;have c:=Tryz.underlying9;have e:=Tryz.underlying3;have p:f1.name≠ "_" :=by rw[g];decide
  have q:f2.name≠ "_" :=by rw[k];decide
  unfold Op.eqFields Op.eqFields Op.eqFields;rw[aq p,aq q,i,j,l,o];rw[bB,KQ c #[.string a,.int .i64 n] 0 (.string a) rfl,bg,bB,KQ c #[.string b,.int .i64 m] 0 (.string b) rfl,bg,bB,run_equalIn_string w d _ a b c,bg,sL];cases r:decide (a=b)
  ·rfl
  ·rw[ah (by simp),bB,Eb e #[.string a,.int .i64 n] 1 (.int .i64 n) rfl,bg,bB,Eb e #[.string b,.int .i64 m] 1 (.int .i64 m) rfl,bg,bB,run_equalIn_int w d _ _ _ n m e,bg];cases hB:(n==m)
   ·rfl
   ·rfl
 ·simp at h
theorem ZY(a b:ByteArray)(n m:Int)(w:World):(binOp .neq 163 (.agg #[.string a,.int .i64 n]) (.agg #[.string b,.int .i64 m])).run Tryz.prog w=.ok (.bool (!(decide (a=b)&&n==m))) w:=by
 have h:=run_equalIn_struct (P:=Tryz.prog) (w:=w) 9999 163 #[.string a,.int .i64 n] #[.string b,.int .i64 m] (by kernel_rfl) (by kernel_rfl);rw[run_neq_struct,h,I8 9998 _ a b n m w NL,bg]
theorem oP:∀(bs:List ByteArray) (l m:List sr),gK bs (l++m)=(gK bs l&&gK (bs++uy l l.length) m)
 |bs,[],m=>by rw[bL,show uy [] ([]:List sr).length=[]from rfl,bk];rfl
 |bs,x::l,m=>by
  rw[bJ,sM,sM,oP (bs++[x.name]) l m,show uy (x::l) (x::l).length=x.name::uy l l.length by simp[uy],aG];simp only[Bool.and_assoc]
  rfl
def fA(s:Sg):Bool:=fX s.cons.length 2 12&&decide (s.bj.length<=8)&&Be (bS s.cons 0) oq&&Be (bS s.cons 1) uU&&gK [] (s.cons++s.bj)
theorem v8(x:sr)(s:ByteArray):∀w,(binOp .neq 163 (.agg #[.string x.name,.int .i64 x.args]) (.agg #[.string s,.int .i64 0])).run Tryz.prog w=.ok (.bool (!Be x s)) w:=λw=>ZY _ _ _ _ w
theorem F8.nil(w:World)(B:Nat):F8 w B (.slice none 0 0) []:=⟨by decide,none,0,rfl,lR,by decide,λh=>ay h (dy _)⟩
theorem RJ(s:Sg)(sv:Value)(w:World)(B:Nat)(t:ku w B sv s)(hB:B<=w.heap.size):aH Tryz.prog 96 #[sv] w (.bool (fA s)):=by
 obtain⟨cv,fv,rfl,hc,G⟩:=t;have A:=hc.small;have C:=G.small;obtain⟨u,cc,rfl⟩:=hc.slice;obtain⟨g,i,rfl⟩:=G.slice;have d:=Below.cA w (.cells #[.slice u s.cons.length cc,.slice g s.bj.length i] 39);obtain⟨j,x,cg⟩:=h_3 (hc.mono hB) (G.mono hB) d;clear hc G d;unfold aH;cases c1:fX (s.cons.length:Int) 2 12
 case false=>
  have fw:=hI c1;have HV:Hd (fA s=false):=hI (by unfold fA;rw[c1];rfl);clear c1
  go_enter Tryz.func96,Tryz.ntmps96
  exact amz
 have fw:=hI c1;have d:2<=s.cons.length/\s.cons.length<=12:=by unfold fX at c1;simp at c1;omega
 by_cases c2:s.bj.length<=8
 case neg=>
  have y:decide ((8:Int)<(s.bj.length:Int))=true:=by simp;omega
  have HV:Hd (fA s=false):=hI (by unfold fA;rw[aB c2];simp);clear c1 c2
  go_enter Tryz.func96,Tryz.ntmps96
  exact amz
 have y:decide ((8:Int)<(s.bj.length:Int))=false:=by simp;omega
 obtain⟨b,off,cap,he,D,x0,x1,_⟩:=fJ j.o cg.o (k:=0) (by omega);cases he;obtain⟨E,F,H,he,_,m,n,_⟩:=fJ j.o cg.o (k:=1) (by omega);cases he;rw[Nat.zero_mul,Nat.add_zero]at x0 x1;rw[Nat.one_mul]at m n;have i0:0<s.cons.length:=by omega
 have i1:(1:Int)<(s.cons.length:Int):=by omega
 have c:=v8 (bS s.cons 0) oq;have f:=v8 (bS s.cons 1) uU;unfold oq at c;unfold uU at f;have a:fA s=(Be (bS s.cons 0) oq&&Be (bS s.cons 1) uU&&gK [] (s.cons++s.bj)):=by unfold fA;rw[c1,aI c2];rfl
 unfold oq uU at a;cases c3:Be (bS s.cons 0) { data:= #[70,97,108,115,101]}
 case false=>
  have HV:Hd (fA s=false):=hI (by rw[a,c3];rfl);rw[c3]at c;clear c1 c2 c3 a d
  go_enter Tryz.func96,Tryz.ntmps96
  exact amz
 cases c4:Be (bS s.cons 1) { data:= #[84,114,117,101]}
 case false=>
  have HV:Hd (fA s=false):=hI (by rw[a,c3,c4];rfl);rw[c3]at c;rw[c4]at f;clear c1 c2 c3 c4 a d
  go_enter Tryz.func96,Tryz.ntmps96
  exact amz
 rw[c3]at c a;rw[c4]at f a;rw[oP]at a;have o:=hI a;have p:=hI (And.intro d c2);clear c1 c2 c3 c4 a d;obtain⟨W,l⟩:=xE (w.alloc (.cells #[.slice (some ⟨b,off,none⟩) s.cons.length cc,.slice g s.bj.length i] 39));have z:Hd (W.heap[w.heap.size]? =some (.cells #[.slice (some ⟨b,off,none⟩) s.cons.length cc,.slice g s.bj.length i] 39 (0,0))):=hI (by rw[l];exact a_ _ _);have G:=hI l;clear l
 go_enter Tryz.func96,Tryz.ntmps96
 go_wp2_with (go_at_call 151;refine(eQ _ _ _ _).mono ?_;rintro e w' ⟨rfl,dR⟩;rw[dR,fw.o];clear dR w')
 rw[<-G.o];rw[<-G.o]at cg;refine(GR [] s.cons _ _ W w.heap.size (F8.nil _ _) (j.o.below cg.o lR) cg.o.size (by have:=p.o;simp;omega)).mono ?_;rintro e l ⟨d,v,rfl,q⟩;have a:=hI (ag cg.o d lR);have HV:=hI q;have r:=cY d z.o;have q1:=eY r;clear d q r x0 x1 m n c f;cases c5:gK [] s.cons
 case false=>
  have d:Hd (fA s=false):=hI (by rw[o.o,c5];rfl);clear c5;go_wp2;go_ret;exact⟨by rw[d.o];rfl,a.o⟩
 case true=>
  have d:Hd (fA s=gK (uy s.cons s.cons.length) s.bj):=hI (by rw[o.o,c5];rfl);have c:=hI (HV.o c5);clear c5
  go_wp2_with fail
  refine(GR _ s.bj _ _ l l.heap.size c.o ((x.o.below a.o lR).mono a.o.size) lR (by have:=p.o;simp[uy];omega)).mono ?_;rintro e q ⟨m,v3,rfl,f⟩;have n:=hI (ag a.o m lR);rw[bL];clear m f;go_wp2;go_ret;exact⟨by rw[d.o];rfl,n.o⟩
def fP(s:Sg):Bool:=decide (s.cons.length<=16)&&decide (s.bj.length<=12)&&(s.cons.all λx=>decide (x.name.size<=30))&&s.bj.all λx=>decide (x.name.size<=30)
theorem Qa{p:sr->Bool}(a:k<l.length)(h:p (bS l k)=false):l.all p=false:=by
 rw[b5];intro hc;have:=aK.1 hc (bS l k) (by unfold bS;rw[ae a];exact aR a);rw[h]at this;cases this
theorem KS{p:sr->Bool}(h:∀k,k<l.length->p (bS l k)=true):l.all p=true:=by
 rw[aK];intro x b;obtain⟨k,a,rfl⟩:=bC.1 b;have:=h k a;unfold bS at this;rwa [ae a]at this
theorem I9(s:Sg)(sv:Value)(w:World)(B:Nat)(t:ku w B sv s)(hB:B<=w.heap.size):aH Tryz.prog 93 #[sv] w (.bool (fP s)):=by
 obtain⟨cv,fv,rfl,hc,G⟩:=t;have v:=hc.small;have y:=G.small;obtain⟨f,cc,rfl⟩:=hc.slice;obtain⟨g,l,rfl⟩:=G.slice;have cg:=hI (Below.cA w (.cells #[.slice f s.cons.length cc,.slice g s.bj.length l] 39));have p:=hI ((hc.mono hB).below cg.o lR);have q:=hI ((G.mono hB).below cg.o lR);clear hc G;unfold aH;by_cases c1:s.cons.length<=16
 case neg=>
  have m:decide ((16:Int)<(s.cons.length:Int))=true:=by simp;omega
  have HV:Hd (fP s=false):=hI (by unfold fP;rw[aB c1];rfl);clear c1;exact an8
 have c:decide ((16:Int)<(s.cons.length:Int))=false:=by simp;omega
 by_cases c2:s.bj.length<=12
 case neg=>
  have m:decide ((12:Int)<(s.bj.length:Int))=true:=by simp;omega
  have HV:Hd (fP s=false):=hI (by unfold fP;rw[aB c2];simp);clear c1 c2;exact an8
 have m:decide ((12:Int)<(s.bj.length:Int))=false:=by simp;omega
 have r:Hd (fP s=((s.cons.all λx=>decide (x.name.size<=30))&&s.bj.all λx=>decide (x.name.size<=30))):=hI (by unfold fP;rw[aI c1,aI c2];rfl);clear c1 c2
 go_enter Tryz.func93,Tryz.ntmps93
 go_wp2;clear c m;obtain⟨W,G⟩:=xE (w.alloc (.cells #[.slice f s.cons.length cc,.slice g s.bj.length l] 39));have a:W.heap[w.heap.size]? =some (.cells #[.slice f s.cons.length cc,.slice g s.bj.length l] 39 (0,0)):=by rw[G];exact a_ _ _
 have z:=cZ a;have q1:=eY a;rw[<-G]at cg p q |-;clear G a
 go_loop [3] (λi=>∃k:Nat,k<=s.cons.length/\i=.int .i64 k/\∀j,j<k->decide ((bS s.cons j).name.size<=30)=true) (λi=>s.cons.length-(intOf i).toNat)
 case atStart=>exact⟨0,aw _,rfl,λj hj=>ay hj (ax _)⟩
 case round=>
  obtain⟨k,a,rfl,c⟩:=hrel;have dK:=hI c;clear c;by_cases d:k<s.cons.length
  ·obtain⟨b,off,cap,he,_,x0,_,u⟩:=fJ p.o bR d;cases he;by_cases ZZ:(bS s.cons k).name.size<=30
   ·have n:decide ((30:Int)<((bS s.cons k).name.size:Int))=false:=by simp;omega
    exact anA
   ·have n:decide ((30:Int)<((bS s.cons k).name.size:Int))=true:=by simp;omega
    have HV:Hd (fP s=false):=hI (by rw[r.o,Qa d (aB ZZ)];rfl);clear ZZ;go_wp2;go_ret;exact⟨by rw[HV.o];rfl,cg.o⟩
  ·have o:k=s.cons.length:=by omega
   subst o;have e:Hd (fP s=s.bj.all λx=>decide (x.name.size<=30)):=hI (by rw[r.o,KS dK.o];rfl);go_wp2
   go_loop [4] (λi=>∃k:Nat,k<=s.bj.length/\i=.int .i64 k/\∀j,j<k->decide ((bS s.bj j).name.size<=30)=true) (λi=>s.bj.length-(intOf i).toNat)
   case atStart=>exact⟨0,aw _,rfl,λj hj=>ay hj (ax _)⟩
   case round=>
    obtain⟨k,a,rfl,c⟩:=hrel;have dK:=hI c;clear c;by_cases d:k<s.bj.length
    ·obtain⟨b,off,cap,he,_,x0,_,u⟩:=fJ q.o bR d;cases he;by_cases ZZ:(bS s.bj k).name.size<=30
     ·have n:decide ((30:Int)<((bS s.bj k).name.size:Int))=false:=by simp;omega
      exact anA
     ·have n:decide ((30:Int)<((bS s.bj k).name.size:Int))=true:=by simp;omega
      have HV:Hd (fP s=false):=hI (by rw[e.o,Qa d (aB ZZ)]);clear ZZ;go_wp2;go_ret;exact⟨by rw[HV.o];rfl,cg.o⟩
    ·have o:k=s.bj.length:=by omega
     subst o;have HV:Hd (fP s=true):=hI (by rw[e.o,KS dK.o]);go_wp2;go_ret;exact⟨by rw[HV.o];rfl,cg.o⟩
def Fo.pre:Fo->Nat->Nat
 | .nil,_=>0
 | .cons _ _ _ _,0=>0
 | .cons _ _ k r,i+1=>1+k.size+r.pre i
theorem Fo.Ed(F:Fo):F.pre 0=0:=by cases F<;>rfl
theorem Fo.uW:∀{F:Fo} {i:Nat},i<F.len->F.pre (i+1)=F.pre i+(F.at i).size
 | .nil,_,h=>ay h (ax _)
 | .cons a n k r,0,_=>by unfold Fo.pre;rw[Fo.Ed];show _=0+(1+k.size);omega
 | .cons a n k r,i+1,h=>by
  have:=Fo.uW (F:=r) (i:=i) (by unfold Fo.len at h;omega);show 1+k.size+r.pre (i+1)=1+k.size+r.pre i+(r.at i).size;omega
theorem Fo.zQ:∀F:Fo,F.pre F.len=F.size
 | .nil=>rfl
 | .cons a n k r=>by show 1+k.size+r.pre r.len=1+k.size+r.size;rw[Fo.zQ r]
theorem Fo.ry:∀(F:Fo) (i:Nat),F.pre i<=F.size
 | .nil,_=>lR
 | .cons a n k r,0=>aw _
 | .cons a n k r,i+1=>by have:=Fo.ry r i;show 1+k.size+r.pre i<=1+k.size+r.size;omega
def rz(s n:Nat):Int:=if s<=n then((n-s:Nat):Int)else -1
theorem sN(h:s<=n):rz s n=((n-s:Nat):Int):=aq h
theorem v_(h:¬s<=n):rz s n= -1:=ah h
theorem KT{s':Nat}(h:s<=n):rz s' (n-s)=rz (s+s') n:=by
 unfold rz;by_cases a:s'<=n-s
 ·rw[aq a,aq (by omega)];congr 1;omega
 ·rw[ah a,ah (by omega)]
theorem rA:∀(m:Nat) (t:Nd) (n:Nat) (v:Value) (w:World) (B:Nat),t.size<=m->n<=1000->cV w B v t->B<=w.heap.size->
 aH Tryz.prog 170 #[v,.int .i64 (n:Nat)] w (.int .i64 (rz t.size n))
 |0,t,_,_,_,_,h,_,_,_=>ay h (by unfold Nd.size;omega)
 |m+1,t,n,v,w,B,hm,M,C,hB=>by
  obtain⟨sv,rfl,a⟩:=C;have N:=a.small;obtain⟨D,sc,rfl⟩:=a.slice;have r:=rA m;obtain⟨E,F,G⟩:=h_3 r (a.mono hB) hm;clear r a hm;unfold aH
  go_enter Tryz.func170,Tryz.ntmps170
  go_wp2
  go_loopw [1,5] (λl i wr=>∃k:Nat,k<=t.k.len/\i=.int .i64 k/\l=.int .i64 (rz (1+t.k.pre k) n)/\Below w.heap.size w wr/\wr.cell? ⟨w.heap.size,2,none⟩=some (.slice D t.k.len sc)) (λ_ i _=>t.k.len-(intOf i).toNat)
  case atStart=>
   refine⟨0,aw _,rfl,?_,Below.cA _ _,by rw[cell_of_row _ _ _ _ _ _ (a_ _ _)];rfl⟩;rw[Fo.Ed];unfold rz;by_cases h:1<=n
   ·rw[aq h];go_num
   ·rw[ah h];have:n=0:=by omega
    subst this;rfl
  case round=>
   obtain⟨k,O,rfl,rfl,a,u⟩:=hrel;have j:=t.k.ry k;have o:t.size=1+t.k.size:=rfl;by_cases c:1+t.k.pre k<=n
   ·rw[sN c];obtain⟨q,f⟩:=xE (n-(1+t.k.pre k));rw[<-f];by_cases g:k<t.k.len
    ·obtain⟨b,off,cap,p,P,he,Q,c0,c1,c2,x⟩:=dC F.o a g;cases he;have y:=Fo.uW g;have r:=KT (s:=1+t.k.pre k) (s':=(t.k.at k).size) (n:=n) c;rw[<-f]at r;have H:=Fo.eD g;have z:=E.o (t.k.at k) q _ wr w.heap.size (by have:=G.o;show 1+(t.k.at k).k.size<=m;omega) (by omega) ⟨_,rfl,x⟩ a.size;obtain⟨I,J,K,d,A⟩:=h_5 z y r a u;clear z y r H x o j f c a
     go_wp2_with fail
     refine I.o.mono ?_;rintro e x ⟨rfl,r⟩;have y:Below w.heap.size w x:=d.o.trans (r.mono d.o.size);have z:x.cell? ⟨w.heap.size,2,none⟩=some (.slice (some ⟨b,off,none⟩) t.k.len sc):=(r.cell (p:=⟨w.heap.size,2,none⟩) (by exact af A.o)).trans A.o;have H:=hI y;have L:=hI z;clear r y z u c0 c1 c2;go_wp2
     go_roundw
     case rel=>exact⟨k+1,by omega,by go_num,by rw[K.o,J.o];congr 2;omega,H.o,L.o⟩
     case measure=>simp[intOf];omega
    ·have r:k=t.k.len:=by omega
     have x:Hd (q=n-t.size):=hI (by rw[f,r,Fo.zQ];rfl);have y:Hd (t.size<=n):=hI (by rw[r,Fo.zQ]at c;exact c);have d:=hI a;clear f c a j o;go_wp2;go_ret;exact⟨by rw[sN y.o,x.o];rfl,d.o⟩
   ·have r:Hd (¬t.size<=n):=hI (by omega);rw[v_ c];have d:=hI a;clear c a j o;by_cases g:k<t.k.len
    all_goals
     go_wp2;go_ret;exact⟨by rw[v_ r.o];rfl,d.o⟩
theorem xo(t:Nd)(v:Value)(w:World)(B:Nat)(i:cV w B v t)(hB:B<=w.heap.size):aH Tryz.prog 124 #[v] w (.bool (decide (t.size<=26))):=by
 have b:∀W,Below w.heap.size w W->aH Tryz.prog 170 #[v,.int .i64 ((26:Nat):Int)] W (.int .i64 (rz t.size 26)):=λW c=>rA _ t 26 v W w.heap.size lR (by omega) ((i.mono hB).below c lR) c.size;obtain⟨sv,rfl,d⟩:=i;obtain⟨k,sc,rfl⟩:=d.slice;have j:=hI b;clear b d;unfold aH;by_cases a:t.size<=26
 ·have b:=sN a;obtain⟨q,f⟩:=xE (26-t.size);rw[<-f]at b;have c:=hI b;have d:=hI a;clear b a f
  go_enter Tryz.func124,Tryz.ntmps124
  go_wp2_with fail
  refine(j.o _ (Below.cA _ _)).mono ?_;rw[c.o];rintro e f ⟨rfl,b⟩;have g:Hd (Below w.heap.size w f):=hI ((Below.cA _ _).trans (b.mono (by simp)));clear b;go_wp2;go_ret;exact⟨by rw[aI d.o];rfl,g.o⟩
 ·have c:=hI (v_ a);have d:=hI a;clear a
  go_enter Tryz.func124,Tryz.ntmps124
  go_wp2_with fail
  refine(j.o _ (Below.cA _ _)).mono ?_;rw[c.o];rintro e f ⟨rfl,b⟩;have g:Hd (Below w.heap.size w f):=hI ((Below.cA _ _).trans (b.mono (by simp)));clear b;go_wp2;go_ret;exact⟨by rw[aB d.o];rfl,g.o⟩
theorem sO:∀(m:Nat) (t u:Nd) (v x:Value) (w:World) (B:Nat),t.size<=m->cV w B v t->cV w B x u->B<=w.heap.size->
 aH Tryz.prog 106 #[v,x] w (.bool (jh t u))
 |0,t,_,_,_,_,_,h,_,_,_=>ay h (by unfold Nd.size;omega)
 |m+1,t,u,v,x,w,B,hm,J,K,hB=>by
  obtain⟨sv,rfl,a⟩:=J;obtain⟨xv,rfl,hy⟩:=K;have Bc:=a.small;have L:=hy.small;obtain⟨f,sc,rfl⟩:=a.slice;obtain⟨g,l,rfl⟩:=hy.slice;have G:=sO m;obtain⟨M,N,O,P⟩:=h_4 G (a.mono hB) (hy.mono hB) hm;clear G a hy hm;have P9:Hd (∀W,W=(w.alloc (.cells #[.int .i64 t.a,.int .i64 t.n,.slice f t.k.len sc] 26)).alloc (.cells #[.int .i64 u.a,.int .i64 u.n,.slice g u.k.len l] 26)->Below w.heap.size w W):=hI λW c=>by rw[c];exact Below.jE _ _ _
  unfold aH;by_cases c:t.a=u.a
  case neg=>
   have s:(t.a != u.a)=true:=gy c;have HN:=hI (P4 c);clear c;exact an2
  have s:(t.a != u.a)=false:=jX c;by_cases e:t.n=u.n
  case neg=>
   have y:(t.n != u.n)=true:=gy e;have HN:=hI (P5 e);clear c e;exact an2
  have y:(t.n != u.n)=false:=jX e;have n:=hI (P6 c e);clear c e;by_cases G:t.k.len=u.k.len
  case neg=>
   have z:((t.k.len:Int) != (u.k.len:Int))=true:=gy (by omega);have HN:=hI (A9 G);clear G
   go_enter Tryz.func106,Tryz.ntmps106
   go_wp2;go_ret;exact⟨by rw[n.o,HN.o];rfl,P9.o _ rfl⟩
  have A:=hI G;have z:((t.k.len:Int) != (u.k.len:Int))=false:=jX (by omega);clear G
  go_enter Tryz.func106,Tryz.ntmps106
  go_wp2;refine eR (λW=>Below w.heap.size w W/\W.heap[w.heap.size]? =some (.cells #[.int .i64 t.a,.int .i64 t.n,.slice f t.k.len sc] 26 (0,0))/\W.heap[w.heap.size+1]? =some (.cells #[.int .i64 u.a,.int .i64 u.n,.slice g u.k.len l] 26 (0,0))) ⟨Below.jE _ _ _,(cH _ _ _).1,(cH _ _ _).2⟩ ?_;rintro W ⟨G,c,e⟩;obtain⟨Q,C,D⟩:=h_3 G c e;clear G c e s y z
  go_loopw [5] (λi wr=>∃k:Nat,k<=t.k.len/\i=.int .i64 k/\(∀j,j<k->jh (t.k.at j) (u.k.at j)=true)/\Below W.heap.size W wr) (λi _=>t.k.len-(intOf i).toNat)
  case atStart=>exact⟨0,aw _,rfl,λj E=>ay E (ax _),bR⟩
  case round=>
   obtain⟨k,hk,rfl,e,c⟩:=hrel;have q:=(gE C.o).1;have z2:=(gE D.o).1;have G:=ag Q.o c lR;have c0:wr.cell? ⟨w.heap.size,2,none⟩=some (.slice f t.k.len sc):=by rw[cell_of_row _ _ _ _ _ _ (bQ C.o c q)];rfl
   have d0:wr.cell? ⟨w.heap.size+1,2,none⟩=some (.slice g u.k.len l):=by rw[cell_of_row _ _ _ _ _ _ (bQ D.o c z2)];rfl
   have q1:=af c0;have q2:=af d0;obtain⟨F,H,I⟩:=h_3 e c G;clear e c q z2;by_cases o:k<t.k.len
   ·have R:k<u.k.len:=by rw[<-A.o];exact o
    obtain⟨b,off,cap,p,S,he,fF,f0,f1,f2,c⟩:=dC N.o G o;cases he;obtain⟨T,Ec,oh,U,V,X,U9,g0,g1,g2,r⟩:=dC O.o G R;cases X;have q:w.heap.size<=wr.heap.size:=G.size;have y1:b<wr.heap.size:=by omega
    have y2:T<wr.heap.size:=by omega
    have Y:=Fo.eD o;have om:(k:Int)<(t.k.len:Int):=by omega
    have Z:(k:Int)<(u.k.len:Int):=by omega
    have e:Hd (∀d os,aH Tryz.prog 106 #[.agg #[.int .i64 (t.k.at k).a,.int .i64 (t.k.at k).n,.slice p (t.k.at k).k.len S],.agg #[.int .i64 (u.k.at k).a,.int .i64 (u.k.at k).n,.slice U (u.k.at k).k.len V]] (Go.Sort.grow (redrawn wr d) os) (.bool (jh (t.k.at k) (u.k.at k)))):=
     hI λd os=>M.o _ _ _ _ _ wr.heap.size (by have:=P.o;have:t.size=1+t.k.size:=rfl;show 1+(t.k.at k).k.size<=m;omega) ⟨_,rfl,(c.mono q).below (below_regrown wr d os) lR⟩ ⟨_,rfl,(r.mono q).below (below_regrown wr d os) lR⟩ (below_regrown wr d os).size
    clear c r Y G;cases a:jh (t.k.at k) (u.k.at k)
    case false=>
     have HN:=hI (D7 a);rw[a]at e;clear a
     go_wp2_with fail
     refine aM (by kernel_rfl) (by kernel_rfl) ?_
     repeat go_big_quiet_step ((with_reducible exact aH.quiet (e.o _ _)))
     refine wpQuiet_nil ?_;intro Y c;have r:=hI (I.o.trans (c.mono q));clear c;go_wp2;go_ret;exact⟨by rw[n.o,HN.o];rfl,r.o⟩
    case true=>
     have HN:=hI a;rw[a]at e;clear a
     go_wp2_with fail
     refine aM (by kernel_rfl) (by kernel_rfl) ?_
     repeat go_big_quiet_step ((with_reducible exact aH.quiet (e.o _ _)))
     refine wpQuiet_nil ?_;intro Y c;have r:=hI (H.o.trans (c.mono H.o.size));clear c;go_wp2
     go_roundw
     case rel=>exact⟨k+1,by omega,by go_num,λj E=>if h:j=k then h ▸ HN.o else F.o j (by omega),r.o⟩
     case measure=>simp[intOf];omega
   ·have c:k=t.k.len:=by omega
    subst c;have HN:=hI (A_ A.o F.o);clear G;go_wp2;go_ret;exact⟨by rw[n.o,HN.o];rfl,I.o⟩
theorem F_(F G:Fo)(v x:Value)(w:World)(B:Nat)(c:dr w B v F)(e:dr w B x G)(hB:B<=w.heap.size):
 aH Tryz.prog 107 #[v,x] w (.bool (zJ F G)):=by
 have D:=c.small;have o:=e.small;obtain⟨E,sc,rfl⟩:=c.slice;obtain⟨H,I,rfl⟩:=e.slice;have q:=hI (c.mono hB);have r:=hI (e.mono hB);clear c e;unfold aH;by_cases a:F.len=G.len
 case neg=>
  have f:((F.len:Int) != (G.len:Int))=true:=gy (by omega);have HN:=hI (A9 a);clear a
  go_enter Tryz.func107,Tryz.ntmps107
  go_wp2;go_ret;exact⟨by rw[HN.o];rfl,bR⟩
 have g:=hI a;have f:((F.len:Int) != (G.len:Int))=false:=jX (by omega);clear a
 go_enter Tryz.func107,Tryz.ntmps107
 go_wp2;clear f
 go_loopw [5] (λi wr=>∃k:Nat,k<=F.len/\i=.int .i64 k/\(∀j,j<k->jh (F.at j) (G.at j)=true)/\Below w.heap.size w wr) (λi _=>F.len-(intOf i).toNat)
 case atStart=>exact⟨0,aw _,rfl,λj hj=>ay hj (ax _),bR⟩
 case round=>
  obtain⟨k,J,rfl,l,a⟩:=hrel;have dK:=hI l;have HB:=hI a;clear l;by_cases m:k<F.len
  ·have s:k<G.len:=by rw[<-g.o];exact m
   obtain⟨b,off,cap,p,t,he,K,f0,f1,f2,l⟩:=dC q.o a m;cases he;obtain⟨u,L,M,y,z,A,N,g0,g1,g2,n⟩:=dC r.o a s;cases A;have hz:w.heap.size<=wr.heap.size:=a.size;have O:b<wr.heap.size:=by omega
   have P:u<wr.heap.size:=by omega
   have Q:(k:Int)<(F.len:Int):=by omega
   have C:(k:Int)<(G.len:Int):=by omega
   have uX:Hd (∀d os,aH Tryz.prog 106 #[.agg #[.int .i64 (F.at k).a,.int .i64 (F.at k).n,.slice p (F.at k).k.len t],.agg #[.int .i64 (G.at k).a,.int .i64 (G.at k).n,.slice y (G.at k).k.len z]] (Go.Sort.grow (redrawn wr d) os) (.bool (jh (F.at k) (G.at k)))):=
    hI λd os=>sO _ _ _ _ _ _ wr.heap.size lR ⟨_,rfl,(l.mono hz).below (below_regrown wr d os) lR⟩ ⟨_,rfl,(n.mono hz).below (below_regrown wr d os) lR⟩ (below_regrown wr d os).size
   clear l n a;cases hs:jh (F.at k) (G.at k)
   case false=>
    have HN:=hI (D7 hs);exact amN
   case true=>
    have HN:=hI hs;exact amH
  ·have l:k=F.len:=by omega
   subst l;have HN:=hI (A_ g.o dK.o);clear a;go_wp2;go_ret;exact⟨by rw[HN.o];rfl,HB.o⟩
def Fo.height:Fo->Nat
 | .nil=>0
 | .cons _ _ k r=>max (1+k.height) r.height
def Nd.height(t:Nd):Nat:=1+t.k.height
def Fo.zS:Fo->Nat->Nat
 | .nil,_=>0
 | .cons _ _ _ _,0=>0
 | .cons _ _ k r,i+1=>max (1+k.height) (r.zS i)
theorem Fo.GV(F:Fo):F.zS 0=0:=by cases F<;>rfl
theorem Fo.GW:∀{F:Fo} {i:Nat},i<F.len->F.zS (i+1)=max (F.zS i) (F.at i).height
 | .nil,_,h=>ay h (ax _)
 | .cons a n k r,0,_=>by show max (1+k.height) (r.zS 0)=max 0 (1+k.height);rw[Fo.GV];omega
 | .cons a n k r,i+1,h=>by
  have:=Fo.GW (F:=r) (i:=i) (by unfold Fo.len at h;omega);show max (1+k.height) (r.zS (i+1))=max (max (1+k.height) (r.zS i)) (r.at i).height;rw[this];omega
theorem Fo.KU:∀F:Fo,F.zS F.len=F.height
 | .nil=>rfl
 | .cons a n k r=>by show max (1+k.height) (r.zS r.len)=max (1+k.height) r.height;rw[Fo.KU r]
theorem Fo.Qb:∀(F:Fo) (i:Nat),F.zS i<=F.height
 | .nil,_=>lR
 | .cons a n k r,0=>aw _
 | .cons a n k r,i+1=>by have:=Fo.Qb r i;show max (1+k.height) (r.zS i)<=max (1+k.height) r.height;omega
def rB(s h n d:Nat):Int:=if s<=n/\h<=d then((n-s:Nat):Int)else -1
theorem pJ{h d:Nat}(x:s<=n/\h<=d):rB s h n d=((n-s:Nat):Int):=aq x
theorem oX{h d:Nat}(x:¬(s<=n/\h<=d)):rB s h n d= -1:=ah x
theorem KV{s' h h' d:Nat}(b:1+s<=n/\1+h<=d):rB s' h' (n-(1+s)) (d-1)=rB (1+(s+s')) (1+max h h') n d:=by
 unfold rB;by_cases a:s'<=n-(1+s)/\h'<=d-1
 ·rw[aq a,aq (by omega)];congr 1;omega
 ·rw[ah a,ah (by omega)]
theorem uZ:∀(m:Nat) (t:Nd) (n d:Nat) (v:Value) (w:World) (B:Nat),t.size<=m->n<=1000->d<=1000->cV w B v t->B<=w.heap.size->
 aH Tryz.prog 101 #[v,.int .i64 (n:Nat),.int .i64 (d:Nat)] w (.int .i64 (rB t.size t.height n d))
 |0,t,_,_,_,_,_,h,_,_,_,_=>ay h (by unfold Nd.size;omega)
 |m+1,t,n,d,v,w,B,hm,R,S,J,hB=>by
  obtain⟨sv,rfl,G⟩:=J;have T:=G.small;obtain⟨C,sc,rfl⟩:=G.slice;have a:=uZ m;obtain⟨K,L,M,cg⟩:=h_4 a (G.mono hB) hm (Below.cA w (.cells #[.int .i64 t.a,.int .i64 t.n,.slice C t.k.len sc] 54));clear a G hm;unfold aH;by_cases c1:1<=n
  case neg=>
   have a:n=0:=by omega
   subst a;have HV:=hI (oX (s:=t.size) (h:=t.height) (n:=0) (d:=d) (by unfold Nd.size;omega));clear c1;exact an6
  have u:decide ((n:Int)<1)=false:=by simp;omega
  by_cases c2:1<=d
  case neg=>
   have a:d=0:=by omega
   subst a;have HV:=hI (oX (s:=t.size) (h:=t.height) (n:=n) (d:=0) (by unfold Nd.height;omega));clear c1 c2;exact an6
  have a:decide ((d:Int)<1)=false:=by simp;omega
  have N:=hI (And.intro c1 c2);obtain⟨G,y⟩:∃G,d=G+1:=⟨d-1,by omega⟩;subst y;rw[show((G+1:Nat):Int)=(G:Int)+1 by omega]at a |-;clear c1 c2
  go_enter Tryz.func101,Tryz.ntmps101
  go_wp2;clear u a
  go_loopw [1,7] (λl i wr=>∃k:Nat,k<=t.k.len/\i=.int .i64 k/\l=.int .i64 (rB (1+t.k.pre k) (1+t.k.zS k) n (G+1))/\Below w.heap.size w wr/\wr.cell? ⟨w.heap.size,2,none⟩=some (.slice C t.k.len sc)) (λ_ i _=>t.k.len-(intOf i).toNat)
  case atStart=>
   refine⟨0,aw _,rfl,?_,cg.o,by rw[cell_of_row _ _ _ _ _ _ (a_ _ _)];rfl⟩;have:=N.o;rw[Fo.Ed,Fo.GV,pJ (by omega)]
   congr 1;omega
  case round=>
   obtain⟨k,U,rfl,rfl,c,D⟩:=hrel;have x:t.size=1+t.k.size:=rfl;have a:t.height=1+t.k.height:=rfl;have z:=t.k.ry k;have g:=t.k.Qb k;by_cases f:1+t.k.pre k<=n/\1+t.k.zS k<=G+1
   ·rw[pJ f];obtain⟨q,o⟩:=xE (n-(1+t.k.pre k));rw[<-o];by_cases r:k<t.k.len
    ·obtain⟨b,off,cap,p,V,he,W,c0,c1,c2,E⟩:=dC L.o c r;cases he;have F:=Fo.uW r;have u:=Fo.GW r;have A:=KV (s:=t.k.pre k) (s':=(t.k.at k).size) (h:=t.k.zS k) (h':=(t.k.at k).height) (n:=n) (d:=G+1) f;rw[<-o,<-F,<-u,Nat.add_sub_cancel]at A;have O:=Fo.eD r;have H:=K.o (t.k.at k) q G _ wr w.heap.size (by have:=M.o;show 1+(t.k.at k).k.size<=m;omega) (by omega) (by omega) ⟨_,rfl,E⟩ c.size;obtain⟨P,Q,j,I⟩:=h_4 H A c D;clear H F A O E x z o f c u g a
     go_wp2_with fail
     refine P.o.mono ?_;rintro e A ⟨rfl,u⟩;have E:Below w.heap.size w A:=j.o.trans (u.mono j.o.size);have F:A.cell? ⟨w.heap.size,2,none⟩=some (.slice (some ⟨b,off,none⟩) t.k.len sc):=(u.cell (p:=⟨w.heap.size,2,none⟩) (by exact af I.o)).trans I.o;have H:=hI E;have O:=hI F;clear u E F D c0 c1 c2;go_wp2
     go_roundw
     case rel=>exact⟨k+1,by omega,by go_num,by rw[Q.o],H.o,O.o⟩
     case measure=>simp[intOf];omega
    ·have u:k=t.k.len:=by omega
     have HV:Hd (rB t.size t.height n (G+1)=((q:Nat):Int)):=hI (by
      rw[u,Fo.zQ,Fo.KU]at f;rw[o,u,Fo.zQ,x,a];exact pJ f)
     have j:=hI c;clear o f c z x g a;go_wp2;go_ret;exact⟨by rw[HV.o];rfl,j.o⟩
   ·have u:Hd (¬(t.size<=n/\t.height<=G+1)):=hI (by omega);rw[oX f];have j:=hI c;clear f c z x g a;by_cases r:k<t.k.len
    all_goals
     go_wp2;go_ret;exact⟨by rw[oX u.o];rfl,j.o⟩
def kX(t:Nd):Bool:=decide (t.size<=50/\t.height<=14)
theorem BW(t:Nd)(v:Value)(w:World)(B:Nat)(c:cV w B v t)(hB:B<=w.heap.size):aH Tryz.prog 28 #[v] w (.bool (kX t)):=by
 have e:∀W,Below w.heap.size w W->aH Tryz.prog 101 #[v,.int .i64 ((50:Nat):Int),.int .i64 ((14:Nat):Int)] W (.int .i64 (rB t.size t.height 50 14)):=λW G=>uZ _ t 50 14 v W w.heap.size lR (by omega) (by omega) ((c.mono hB).below G lR) G.size;obtain⟨sv,rfl,b⟩:=c;obtain⟨f,sc,rfl⟩:=b.slice;have HC:=hI e;clear e b;unfold aH;by_cases a:t.size<=50/\t.height<=14
 ·have b:=pJ a;obtain⟨q,d⟩:=xE (50-t.size);rw[<-d]at b;have HZ:=hI b;have HF:=hI (show kX t=true from aI a);clear b a d;exact anf
 ·have HZ:=hI (oX a);have HF:=hI (show kX t=false from aB a);clear a;exact anf
def Ja(a:Int):Bool:=a==6||a==7||a==9||a==10||a==11||a==12||a==13||a==14||a==15
def cS(s:Sg)(a n:Int)(len:Nat):Bool:=
 if a=1 then len==0&&fX n 0 19
 else if a=2 then len==0&&fX n (-1000000) 1000000
 else if a=3 then fX n 0 ((s.cons.length:Int)-1)&&(len:Int)==(bS s.cons n.toNat).args
 else if a=4 then fX n 0 ((s.bj.length:Int)-1)&&(len:Int)==(bS s.bj n.toNat).args
 else if a=5 then fX n 0 ((s.bj.length:Int)-1)&&decide ((len:Int)<(bS s.bj n.toNat).args)
 else if a=8 then len==2&&fX n 0 19
 else Ja a&&(len==2&&n==0)
def cK(s:Sg):Fo->Bool
 | .nil=>true
 | .cons a n k r=>cS s a n k.len&&cK s k&&cK s r
def iT(s:Sg)(t:Nd):Bool:=cS s t.a t.n t.k.len&&cK s t.k
theorem GX{s:Sg}:∀{F:Fo} {i:Nat},i<F.len->iT s (F.at i)=false->cK s F=false
 | .nil,_,h,_=>ay h (ax _)
 | .cons a n k r,0,_,h=>by
  show(cS s a n k.len&&cK s k&&cK s r)=false;rw[show(cS s a n k.len&&cK s k)=false from h];rfl
 | .cons a n k r,i+1,hi,h=>by
  show(cS s a n k.len&&cK s k&&cK s r)=false;rw[GX (F:=r) (i:=i) (by unfold Fo.len at hi;omega) h];simp
theorem Ee{s:Sg}:∀{F:Fo},(∀i,i<F.len->iT s (F.at i)=true)->cK s F=true
 | .nil,_=>rfl
 | .cons a n k r,h=>by
  show(cS s a n k.len&&cK s k&&cK s r)=true;rw[show(cS s a n k.len&&cK s k)=true from h 0 (Nat.succ_pos _),Ee (F:=r) λi hi=>h (i+1) (Nat.succ_lt_succ hi)];rfl
theorem Ef(a:Int):a=1\/a=2\/a=3\/a=4\/a=5\/a=8\/(a=6\/a=7\/a=9\/a=10\/a=11\/a=12\/a=13\/a=14\/a=15)\/
 ((a==1)=false/\(a==2)=false/\(a==3)=false/\(a==4)=false/\(a==5)=false/\(a==6)=false/\(a==7)=false/\(a==8)=false/\(a==9)=false/\(a==10)=false/\(a==11)=false/\(a==12)=false/\(a==13)=false/\(a==14)=false/\(a==15)=false):=by
 simp only[beq_eq_false_iff_ne,ne_eq];omega
theorem NM(s:Sg)(t:Nd)(sv tv:Value)(w:World)(B:Nat)(o:ku w B sv s)(p:cV w B tv t)(hB:B<=w.heap.size):
 aH Tryz.prog 169 #[sv,tv] w (.bool (cS s t.a t.n t.k.len)):=by
 obtain⟨cv,fv,rfl,hc,G⟩:=o;obtain⟨kv,rfl,hk⟩:=p;have L:=hc.small;have M:=G.small;have m:=hk.small;obtain⟨q,cc,rfl⟩:=hc.slice;obtain⟨r,u,rfl⟩:=G.slice;obtain⟨ka,kc,rfl⟩:=hk.slice;obtain⟨cg,v,HF⟩:=h_3 (Below.jE w (.cells #[.slice q s.cons.length cc,.slice r s.bj.length u] 39) (.cells #[.int .i64 t.a,.int .i64 t.n,.slice ka t.k.len kc] 54)) (hc.mono hB) (G.mono hB);clear hc G hk;obtain⟨a,n,F⟩:=t;simp only at m cg |-;obtain⟨len,hlen⟩:∃l,l=F.len:=⟨_,rfl⟩;rw[<-hlen]at m cg |-;clear hlen;unfold aH;rcases Ef a with rfl|rfl|rfl|rfl|rfl|rfl|hp|⟨x,y,z,A,C,D,n7,n8,E,c,d,f,g,i,j⟩
 ·rw[show cS s 1 n len=(len==0&&fX n 0 19)from rfl];cases c0:(len==0)
  ·exact anM
  ·exact ann
 ·rw[show cS s 2 n len=(len==0&&fX n (-1000000) 1000000)from rfl];cases c0:(len==0)
  ·exact anM
  ·cases c1:fX n (-1000000) 1000000
   all_goals
    have fw:=hI c1;clear c1
    go_enter Tryz.func169,Tryz.ntmps169
    go_wp2_with (go_at_call 151;refine(eQ _ _ _ _).mono ?_;rintro e w' ⟨rfl,dR⟩;rw[dR,fw.o];clear dR w')
    go_ret;exact⟨rfl,cg.o⟩
 ·have hv:cS s 3 n len=(fX n 0 ((s.cons.length:Int)-1)&&(len:Int)==(bS s.cons n.toNat).args):=rfl;cases c1:fX n 0 (((s.cons.length:Nat):Int)-1)
  ·have fw:=hI c1;have HV:Hd (cS s 3 n len=false):=hI (by rw[hv,c1];rfl);exact aou
  ·have h0:0<=n/\n<=((s.cons.length:Nat):Int)-1:=by unfold fX at c1;simpa using c1
   obtain⟨k,rfl⟩:∃k:Nat,n=k:=⟨n.toNat,by omega⟩;have hk:k<s.cons.length:=by omega
   obtain⟨b,off,cap,he,_,x0,x1,_⟩:=fJ v.o cg.o hk;cases he;have fw:=hI c1;rw[c1,bw,aU]at hv;clear c1 h0 x0;obtain⟨ar,ue⟩:=xE ((bS s.cons k).args);rw[<-ue]at x1 hv;clear ue;have HV:=hI hv;clear hv
   go_enter Tryz.func169,Tryz.ntmps169
   exact amz
 ·have hv:cS s 4 n len=(fX n 0 ((s.bj.length:Int)-1)&&(len:Int)==(bS s.bj n.toNat).args):=rfl;cases c1:fX n 0 (((s.bj.length:Nat):Int)-1)
  ·have fw:=hI c1;have HV:Hd (cS s 4 n len=false):=hI (by rw[hv,c1];rfl);exact aou
  ·exact aol
 ·have hv:cS s 5 n len=(fX n 0 ((s.bj.length:Int)-1)&&decide ((len:Int)<(bS s.bj n.toNat).args)):=rfl;cases c1:fX n 0 (((s.bj.length:Nat):Int)-1)
  ·have fw:=hI c1;have HV:Hd (cS s 5 n len=false):=hI (by rw[hv,c1];rfl);exact aou
  ·exact aol
 ·rw[show cS s 8 n len=(len==2&&fX n 0 19)from rfl];have H:((len:Int)==2)=(len==2):=by rw[aP];simp;omega
  cases c0:(len==2)
  ·exact anM
  ·exact ann
 ·have H:((len:Int)==2)=(len==2):=by rw[aP];simp;omega
  have hv:cS s a n len=(len==2&&n==0):=by
   rcases hp with rfl|rfl|rfl|rfl|rfl|rfl|rfl|rfl|rfl<;>rfl
  have HV:=hI hv;clear hv;cases c0:(len==2)
  all_goals cases c1:(n==0)
  all_goals rcases hp with rfl|rfl|rfl|rfl|rfl|rfl|rfl|rfl|rfl
  all_goals
   go_enter Tryz.func169,Tryz.ntmps169
   go_wp2;go_ret;exact⟨by rw[HV.o,c0];first|(rw[c1];rfl)|rfl,cg.o⟩
 ·have hv:cS s a n len=false:=by
   have q1:a≠1:=by simpa using x
   have G:a≠2:=by simpa using y
   have H:a≠3:=by simpa using z
   have I:a≠4:=by simpa using A
   have J:a≠5:=by simpa using C
   have K:a≠8:=by simpa using n8
   unfold cS Ja;rw[ah q1,ah G,ah H,ah I,ah J,ah K,D,n7,E,c,d,f,g,i,j]
   rfl
  have HV:=hI hv;clear hv
  go_enter Tryz.func169,Tryz.ntmps169
  go_wp2;go_ret;exact⟨by rw[HV.o];rfl,cg.o⟩
theorem BX(s:Sg):∀(m:Nat) (t:Nd) (sv tv:Value) (w:World) (B:Nat),t.size<=m->ku w B sv s->cV w B tv t->B<=w.heap.size->
 aH Tryz.prog 122 #[sv,tv] w (.bool (iT s t))
 |0,t,_,_,_,_,h,_,_,_=>ay h (by unfold Nd.size;omega)
 |m+1,t,sv,tv,w,B,hm,a,A,hB=>by
  have r:=BX s m;have o:Hd (∀W,Below w.heap.size w W->aH Tryz.prog 169 #[sv,tv] W (.bool (cS s t.a t.n t.k.len))):=hI λW G=>NM s t sv tv W w.heap.size ((a.mono hB).below G lR) ((A.mono hB).below G lR) G.size;have J:=hI (a.mono hB);obtain⟨cv,fv,rfl,hc,c⟩:=a;obtain⟨kv,rfl,f⟩:=A;have C:=f.small;obtain⟨g,cc,rfl⟩:=hc.slice;obtain⟨l,n,rfl⟩:=c.slice;obtain⟨ka,kc,rfl⟩:=f.slice;obtain⟨q,K,L,M⟩:=h_4 (Below.jE w (.cells #[.slice g s.cons.length cc,.slice l s.bj.length n] 39) (.cells #[.int .i64 t.a,.int .i64 t.n,.slice ka t.k.len kc] 54)) r (f.mono hB) hm;clear r hc c f hm;unfold aH;cases c1:cS s t.a t.n t.k.len
  case false=>
   have HV:Hd (iT s t=false):=hI (by unfold iT;rw[c1];rfl);rw[c1]at o;clear c1
   go_enter Tryz.func122,Tryz.ntmps122
   go_wp2_with fail
   refine(o.o _ q.o).mono ?_;rintro e u ⟨rfl,bD⟩;have cR:=hI (ag q.o bD lR);exact amM
  have HV:Hd (iT s t=cK s t.k):=hI (by unfold iT;rw[c1];rfl);rw[c1]at o;clear c1
  go_enter Tryz.func122,Tryz.ntmps122
  go_wp2_with fail
  refine(o.o _ q.o).mono ?_;rintro e u ⟨rfl,bD⟩;have cR:=hI (ag q.o bD lR);have G:=bQ (cH w (.cells #[.slice g s.cons.length cc,.slice l s.bj.length n] 39) (.cells #[.int .i64 t.a,.int .i64 t.n,.slice ka t.k.len kc] 54)).1 bD (by simp;omega);have r:=bQ (cH w (.cells #[.slice g s.cons.length cc,.slice l s.bj.length n] 39) (.cells #[.int .i64 t.a,.int .i64 t.n,.slice ka t.k.len kc] 54)).2 bD (by simp);have v:=hI G;have D:=hI r;clear bD G r;go_wp2
  go_loopw [5] (λi wr=>∃k:Nat,k<=t.k.len/\i=.int .i64 k/\(∀j,j<k->iT s (t.k.at j)=true)/\Below u.heap.size u wr) (λi _=>t.k.len-(intOf i).toNat)
  case atStart=>exact⟨0,aw _,rfl,λj E=>ay E (ax _),bR⟩
  case round=>
   obtain⟨k,f,rfl,y,G⟩:=hrel;have r:=(gE v.o).1;have z2:=(gE D.o).1;have c:=ag cR.o G lR;have c0:wr.cell? ⟨w.heap.size,0,none⟩=some (.slice g s.cons.length cc):=by rw[cell_of_row _ _ _ _ _ _ (bQ v.o G r)];rfl
   have c1:wr.cell? ⟨w.heap.size,1,none⟩=some (.slice l s.bj.length n):=by rw[cell_of_row _ _ _ _ _ _ (bQ v.o G r)];rfl
   have d0:wr.cell? ⟨w.heap.size+1,2,none⟩=some (.slice ka t.k.len kc):=by rw[cell_of_row _ _ _ _ _ _ (bQ D.o G z2)];rfl
   have q1:=af c0;have Q:=af d0;obtain⟨F,N,H⟩:=h_3 y G c;clear y G r z2;by_cases x:k<t.k.len
   ·obtain⟨b,off,cap,p,O,he,R,f0,f1,f2,G⟩:=dC L.o c x;cases he;have I:w.heap.size<=wr.heap.size:=c.size;have S:b<wr.heap.size:=by omega
    have y:=Fo.eD x;have T:(k:Int)<(t.k.len:Int):=by omega
    have r:Hd (∀d os,aH Tryz.prog 122 #[.agg #[.slice g s.cons.length cc,.slice l s.bj.length n],.agg #[.int .i64 (t.k.at k).a,.int .i64 (t.k.at k).n,.slice p (t.k.at k).k.len O]] (Go.Sort.grow (redrawn wr d) os) (.bool (iT s (t.k.at k)))):=
     hI λd os=>K.o _ _ _ _ wr.heap.size (by have:=M.o;have:t.size=1+t.k.size:=rfl;show 1+(t.k.at k).k.size<=m;omega) (((J.o.below c lR).mono I).below (below_regrown wr d os) lR) ⟨_,rfl,(G.mono I).below (below_regrown wr d os) lR⟩ (below_regrown wr d os).size
    clear G y c;cases a:iT s (t.k.at k)
    case false=>
     have z:=hI (GX x a);rw[a]at r;clear a
     go_wp2_with fail
     refine aM (by kernel_rfl) (by kernel_rfl) ?_
     repeat go_big_quiet_step ((with_reducible exact aH.quiet (r.o _ _)))
     refine wpQuiet_nil ?_;intro P G;have y:=hI (ag H.o G lR);clear G;go_wp2;go_ret;exact⟨by rw[HV.o,z.o];rfl,y.o⟩
    case true=>
     have z:=hI a;rw[a]at r;clear a
     go_wp2_with fail
     refine aM (by kernel_rfl) (by kernel_rfl) ?_
     repeat go_big_quiet_step ((with_reducible exact aH.quiet (r.o _ _)))
     refine wpQuiet_nil ?_;intro P G;have y:=hI (ag N.o G lR);clear G;go_wp2
     go_roundw
     case rel=>exact⟨k+1,by omega,by go_num,λj E=>if h:j=k then h ▸ z.o else F.o j (by omega),y.o⟩
     case measure=>simp[intOf];omega
   ·have C:k=t.k.len:=by omega
    subst C;have z:=hI (Ee F.o);clear c;go_wp2;go_ret;exact⟨by rw[HV.o,z.o];rfl,H.o⟩
def dq(s:Sg)(t:Nd):Bool:=decide (t.size<=40/\t.height<=12)&&iT s t
theorem Eg(s:Sg)(t:Nd)(sv tv:Value)(w:World)(B:Nat)(d:ku w B sv s)(c:cV w B tv t)(hB:B<=w.heap.size):
 aH Tryz.prog 43 #[sv,tv] w (.bool (dq s t)):=by
 have l:Hd (∀W,Below w.heap.size w W->aH Tryz.prog 122 #[sv,tv] W (.bool (iT s t))):=hI λW G=>BX s _ t sv tv W w.heap.size lR ((d.mono hB).below G lR) ((c.mono hB).below G lR) G.size;have HW:Hd (∀W,Below w.heap.size w W->aH Tryz.prog 101 #[tv,.int .i64 ((40:Nat):Int),.int .i64 ((12:Nat):Int)] W (.int .i64 (rB t.size t.height 40 12))):=hI λW G=>uZ _ t 40 12 tv W w.heap.size lR (by omega) (by omega) ((c.mono hB).below G lR) G.size;obtain⟨cv,fv,rfl,hc,f⟩:=d;obtain⟨kv,rfl,g⟩:=c;obtain⟨i,cc,rfl⟩:=hc.slice;obtain⟨j,k,rfl⟩:=f.slice;obtain⟨ka,kc,rfl⟩:=g.slice;obtain⟨W,b⟩:=xE ((w.alloc (.cells #[.slice i s.cons.length cc,.slice j s.bj.length k] 39)).alloc (.cells #[.int .i64 t.a,.int .i64 t.n,.slice ka t.k.len kc] 54));have cg:Hd (Below w.heap.size w W):=hI (by rw[b];exact Below.jE w _ _);have m:Hd (W.heap[w.heap.size]? =some (.cells #[.slice i s.cons.length cc,.slice j s.bj.length k] 39 (0,0))):=hI (by rw[b];exact(cH _ _ _).1);have n:Hd (W.heap[w.heap.size+1]? =some (.cells #[.int .i64 t.a,.int .i64 t.n,.slice ka t.k.len kc] 54 (0,0))):=hI (by rw[b];exact(cH _ _ _).2);have wR:=hI b;clear hc f g b;unfold aH;by_cases a:t.size<=40/\t.height<=12
 case neg=>
  have HV:Hd (dq s t=false):=hI (by unfold dq;rw[aB a];rfl);rw[oX a]at HW;clear a
  go_enter Tryz.func43,Tryz.ntmps43
  exact aos
 have HV:Hd (dq s t=iT s t):=hI (by unfold dq;rw[aI a];rfl);rw[pJ a]at HW;obtain⟨q,G⟩:=xE (40-t.size);rw[<-G]at HW;clear a G
 go_enter Tryz.func43,Tryz.ntmps43
 go_wp2_with fail
 rw[<-wR.o];refine(HW.o _ cg.o).mono ?_;rintro e w2 ⟨rfl,bD⟩;have cR:=hI (ag cg.o bD lR);have a:=cY bD m.o;have G:=cY bD n.o;have c0:=cZ a;have c1:=eY a;have d0:=cZ G;have d1:=eY G;have d2:=fu G;clear bD a G
 go_wp2_with fail
 refine(l.o _ cR.o).mono ?_;rintro e b ⟨rfl,G⟩;have a:=hI (ag cR.o G lR);clear G;go_wp2;go_ret;exact⟨by rw[HV.o];rfl,a.o⟩
theorem oZ(l:List Int)(n:Int)(v:Value)(w:World)(d:Ints w B v l):
 Calls Tryz.prog 207 #[v,.int .i64 n] w λe w'=>e=.returned (.bool (mH l n))/\w'=w:=by
 obtain⟨o,a,c,rfl,_,_,G⟩:=d;have f:=hI G;clear G
 go_enter Tryz.func207,Tryz.ntmps207
 go_wp2
 go_loop [5] (λi=>∃k:Nat,k<=l.length/\i=.int .i64 k/\∀j,j<k->cN l j≠n) (λi=>l.length-(intOf i).toNat)
 case atStart=>exact⟨0,aw _,rfl,λj hj=>ay hj (ax _)⟩
 case round=>
  obtain⟨k,p,rfl,G⟩:=hrel;have dK:=hI G;clear G;by_cases g:k<l.length
  ·obtain⟨b,off,rfl,_,G⟩:=f.o (by omega);have c0:w.cell? ⟨b,off+k,none⟩=some (.int .i64 (cN l k)):=G k (by omega);clear G;by_cases he:cN l k=n
   ·have m:(cN l k==n)=true:=by simpa using he
    have G:=hI (ZT g he);clear he;go_wp2;go_ret;exact⟨by rw[G.o];rfl,rfl⟩
   ·have m:(cN l k==n)=false:=by simpa using he
    have HE:=hI he;clear he;exact anJ
  ·have G:k=l.length:=by omega
   subst G;have m:=hI (KC dK.o);go_wp2;go_ret;exact⟨by rw[m.o];rfl,rfl⟩
def lr:List Int->Int->List Int
 |[],n=>[n]
 |x::l,n=>if x<n then x::lr l n else if x=n then x::l else n::x::l
def ug:List Int->Int->Nat
 |[],_=>0
 |x::l,n=>if x<n then ug l n+1 else 0
theorem Qc:∀(l:List Int) (n:Int),ug l n<=l.length
 |[],_=>lR
 |x::l,n=>by unfold ug;split<;>simp[Qc l n]
theorem Qe:∀(l:List Int) (n:Int) (k:Nat),k<ug l n->cN l k<n
 |[],_,_,h=>ay h (ax _)
 |x::l,n,k,h=>by
  unfold ug at h
  split at h
  ·rename_i a;cases k with
   |zero=>exact a
   |succ k=>exact Qe l n k (by omega)
  ·omega
theorem KW:∀(l:List Int) (n:Int),ug l n<l.length->¬cN l (ug l n)<n
 |[],_,h=>ay h (ax _)
 |x::l,n,h=>by
  unfold ug at h |-
  split
  ·rename_i a;rw[aq a]at h;exact KW l n (by simpa using h)
  ·rename_i a;exact a
theorem Z0{l:List Int}{n:Int}(b:k<=l.length)(h:∀j,j<k->cN l j<n)(he:k<l.length->¬cN l k<n):k=ug l n:=by
 rcases Nat.lt_trichotomy k (ug l n)with a|a|a
 ·exact ay (Qe l n k a) (he (by have:=Qc l n;omega))
 ·exact a
 ·exact ay (h _ a) (KW l n (by omega))
theorem Jb:∀(l:List Int) (n:Int),lr l n=if ug l n<l.length/\cN l (ug l n)=n then l else l.take (ug l n)++[n]++l.drop (ug l n)
 |[],n=>rfl
 |x::l,n=>by
  unfold lr ug;by_cases a:x<n
  ·rw[aq a,aq a,Jb l n];simp only[aD,Nat.add_lt_add_iff_right,show cN (x::l) (ug l n+1)=cN l (ug l n)from rfl]
   split<;>simp
  ·rw[ah a,ah a,show cN (x::l) 0=x from rfl];by_cases he:x=n
   ·rw[aq he,aq ⟨by simp,he⟩]
   ·rw[ah he,ah λh=>he h.2];rfl
theorem Eh(l:List Int)(n:Int):(lr l n).length<=l.length+1:=by
 rw[Jb]
 split
 ·omega
 ·simp;omega
theorem Tryz.BZ:(Tryz.prog.info? 3).map (λi=>(i.zero,i.size,i.bytes))=some (some (.int .i64 0),1,8):=by kernel_rfl
abbrev adN:Oper:=⟨some 33,.move (.tmp 0),74,br,#[],none⟩
abbrev adO:Oper:=⟨some 34,.move (.tmp 5),3,br,#[],none⟩
abbrev adP:Oper:=⟨some 35,.slice 74 (.tmp 33) none (some (.tmp 34)) none,74,br,#[aj 0,aj 1],none⟩
abbrev adQ:Oper:=⟨some 36,.call ⟨.builtin .append,#[.const (.slice none 0 0),.tmp 35],#[74,74]⟩,74,br,#[aj 2],none⟩
abbrev adR:Oper:=⟨some 37,.move (.tmp 1),3,br,#[],none⟩
abbrev adS:Oper:=⟨some 38,.buildSlice 74 1 #[(0,.tmp 37)],74,br,#[aj 4],none⟩
abbrev adT:Oper:=⟨some 39,.call ⟨.builtin .append,#[.tmp 36,.tmp 38],#[74,74]⟩,74,br,#[aj 3,aj 5,ao 3],none⟩
abbrev adU:Oper:=⟨some 40,.move (.tmp 0),74,br,#[],none⟩
abbrev adV:Oper:=⟨some 41,.move (.tmp 5),3,br,#[],none⟩
abbrev adW:Oper:=⟨some 42,.slice 74 (.tmp 40) (some (.tmp 41)) none none,74,br,#[aj 7,aj 8],none⟩
abbrev Z1:Oper:=⟨some 43,.call ⟨.builtin .append,#[.tmp 39,.tmp 42],#[74,74]⟩,74,br,#[aj 6,aj 9,ao 6],none⟩
abbrev Z2:Oper:=⟨some 4,.assign (.tmp 43),74,br,#[aj 10,ao 10,al 0,al 1,al 2,al 3,al 4,al 5,al 6,al 7,al 8,al 9,al 10],none⟩
def Qf:Array Oper:= #[adN,adO,adP,adQ,adR,adS,adT,adU,adV,adW,Z1,Z2]
theorem GY{a:Option Addr}{c:Nat}{xs:List Int}(h:Ints w B (.slice a n c) xs)(m:k<=n):Row w B 1 (sliced a k n c 1) (n-k) (λi=>.int .i64 (cN (xs.drop k) i)):=by
 obtain⟨p,q,cap,d,r,e,f⟩:=h;cases d;refine⟨by omega,_,_,rfl,by omega,by unfold maxLen at e |-;omega,λs=> ?_⟩;obtain⟨b,o,g,j,l⟩:=f (by omega);subst g;rw[ah (by omega)];refine⟨b,o+k,by simp[Addr.add],j,λi hi=> ?_⟩;rw[bN,l (k+i) (by omega)];simp[cN,List.getElem?_drop]
def RM(w:World)(l:List Int)(e:Ending)(w':World):Prop:=∃v,e=.returned v/\Ints w' w'.heap.size v l/\Below w.heap.size w w'
theorem we(l:List Int)(n:Int)(v:Value)(w:World)(r:Ints w B v l)(hB:B<=w.heap.size)(C:l.length<=1000):
 Calls Tryz.prog 123 #[v,.int .i64 n] w (RM w (lr l n)):=by
 have HL:=hI (r.mono hB);obtain⟨D,a,c,rfl,t,y,G⟩:=r;unfold maxLen at y;have s:=hI G;clear G
 go_enter Tryz.func123,Tryz.ntmps123
 go_wp2
 go_loop [5] (λi=>∃k:Nat,k<=l.length/\i=.int .i64 k/\∀j,j<k->cN l j<n) (λi=>l.length-(intOf i).toNat)
 case atStart=>exact⟨0,aw _,rfl,λj hj=>ay hj (ax _)⟩
 case round=>
  obtain⟨k,hk,rfl,G⟩:=hrel;have dK:=hI G;clear G;by_cases g:k<l.length/\cN l k<n
  ·obtain⟨p,hle⟩:=g;obtain⟨b,off,rfl,_,m⟩:=s.o (by omega);have c0:w.cell? ⟨b,off+k,none⟩=some (.int .i64 (cN l k)):=m k (by omega);have z:decide (cN l k<n)=true:=by simpa using hle
   have HE:=hI hle;clear m hle;exact anJ
  ·have f:k=ug l n:=Z0 hk dK.o λh1 h2=>g ⟨h1,h2⟩;have d:=Jb l n;rw[<-f]at d;by_cases p:k<l.length
   ·obtain⟨b,off,rfl,_,m⟩:=s.o (by omega);have c0:w.cell? ⟨b,off+k,none⟩=some (.int .i64 (cN l k)):=m k (by omega);have z:decide (cN l k<n)=false:=by simp;exact Int.not_lt.1 λh=>g ⟨p,h⟩
    clear m g f;by_cases he:cN l k=n
    ·have A:(cN l k==n)=true:=by simpa using he
     rw[aq ⟨p,he⟩]at d;have HV:=hI d;clear he d;go_wp2;go_ret;exact⟨_,rfl,by rw[HV.o];exact HL.o,bR⟩
    ·have A:(cN l k==n)=false:=by simpa using he
     rw[ah λh=>he h.2]at d;have HV:=hI d;clear he d;obtain⟨aa,haa⟩:∃aa:Option Addr,aa=some ⟨b,off,none⟩:=⟨_,rfl⟩;exact ami
   ·rw[ah λh=>p h.1]at d;have HV:=hI d;clear g f d;obtain⟨aa,haa⟩:∃aa:Option Addr,aa=a:=⟨_,rfl⟩;exact ami
def sP(cut:Bool)(n:Int)(out l:List Int):List Int:=(l.filter λx=> !(cut&&x==n)).foldl lr out
def G3:Fo->Bool->Int->Nat->List Int->List Int
 | .nil,_,_,_,out=>out
 | .cons a m k r,lt,n,i,out=>G3 r lt n (i+1) (sP (lt&&i==1) n out (if a=1 then[m]else G3 k (a==8) m 0 []))
def cC(t:Nd):List Int:=if t.a=1 then[t.n]else G3 t.k (t.a==8) t.n 0 []
theorem Vb(c:Bool)(n:Int)(out:List Int):sP c n out []=out:=rfl
theorem RO(c:Bool)(n:Int)(out l:List Int)(x:Int):sP c n out (l++[x])=if(c&&x==n)=true then sP c n out l else lr (sP c n out l) x:=by
 unfold sP;rw[List.filter_append,List.foldl_append];by_cases h:(c&&x==n)=true
 ·rw[aq h,bp,h];rfl
 ·have h':(c&&x==n)=false:=by simpa using h
  rw[ah h,bp,h'];rfl
theorem Ei(c:Bool)(n:Int):∀(l out:List Int),(sP c n out l).length<=out.length+l.length:=by
 intro l out;unfold sP;have a:∀(l out:List Int),(l.foldl lr out).length<=out.length+l.length:=by
  intro l
  induction l with
  |nil=>intro out;simp
  |cons x l b=>intro out;have:=b (lr out x);have:=Eh out x;simp only[List.foldl_cons,aD];omega
 have:=a (l.filter λx=> !(c&&x==n)) out;have:=List.length_filter_le (λx=> !(c&&x==n)) l;omega
theorem Jc:∀(F:Fo) (lt:Bool) (n:Int) (i:Nat) (out:List Int),(G3 F lt n i out).length<=out.length+F.size
 | .nil,_,_,_,_=>by unfold G3;omega
 | .cons a m k r,lt,n,i,out=>by
  unfold G3 Fo.size;have b:=Jc r lt n (i+1) (sP (lt&&i==1) n out (if a=1 then[m]else G3 k (a==8) m 0 []));have c:=Ei (lt&&i==1) n (if a=1 then[m]else G3 k (a==8) m 0 []) out;have d:(if a=1 then[m]else G3 k (a==8) m 0 []).length<=1+k.size:=by
   split
   ·simp
   ·have:=Jc k (a==8) m 0 [];simp only[List.length_nil]at this;omega
  omega
theorem iL(t:Nd):(cC t).length<=t.size:=by
 unfold cC Nd.size
 split
 ·simp
 ·have:=Jc t.k (t.a==8) t.n 0 [];simp only[List.length_nil]at this;omega
def Fo.drop:Fo->Nat->Fo
 |F,0=>F
 | .nil,_+1=>.nil
 | .cons _ _ _ r,i+1=>r.drop i
theorem Fo.drop_zero(F:Fo):F.drop 0=F:=by cases F<;>rfl
theorem Fo.mr:∀{F:Fo} {i:Nat},i<F.len->F.drop i=.cons (F.at i).a (F.at i).n (F.at i).k (F.drop (i+1))
 | .nil,_,h=>ay h (ax _)
 | .cons a n k r,0,_=>by show Fo.cons a n k r=.cons a n k (r.drop 0);rw[Fo.drop_zero]
 | .cons a n k r,i+1,h=>Fo.mr (F:=r) (i:=i) (by unfold Fo.len at h;omega)
theorem Fo.ie:∀{F:Fo} {i:Nat},F.len<=i->F.drop i=.nil
 | .nil,0,_=>rfl
 | .nil,_+1,_=>rfl
 | .cons a n k r,0,h=>by simp[Fo.len]at h
 | .cons a n k r,i+1,h=>Fo.ie (F:=r) (by unfold Fo.len at h;omega)
theorem Vc{F:Fo}(h:i<F.len)(lt:Bool)(n:Int)(out:List Int):G3 (F.drop i) lt n i out=G3 (F.drop (i+1)) lt n (i+1) (sP (lt&&i==1) n out (cC (F.at i))):=by
 rw[Fo.mr h]
 rfl
theorem Ej{l:List Int}{q:Nat}(h:q<l.length):l.take (q+1)=l.take q++[cN l q]:=by
 rw[aV h];unfold cN;rw[ae h];rfl
theorem pL:∀(m:Nat) (t:Nd) (v:Value) (w:World) (B:Nat),t.size<=m->m<=400->cV w B v t->B<=w.heap.size->
 Calls Tryz.prog 46 #[v] w (RM w (cC t))
 |0,t,_,_,_,h,_,_,_=>ay h (by unfold Nd.size;omega)
 |m+1,t,v,w,B,hm,F,H,hB=>by
  obtain⟨sv,rfl,G⟩:=H;have Bc:=G.small;obtain⟨I,sc,rfl⟩:=G.slice;have d:=pL m;obtain⟨O,P,Q⟩:=h_3 d (G.mono hB) (Below.cA w (.cells #[.int .i64 t.a,.int .i64 t.n,.slice I t.k.len sc] 54));clear d G;by_cases c1:t.a=1
  ·have L:(t.a==1)=true:=by simpa using c1
   have J:Hd (cC t=[t.n]):=hI (by unfold cC;rw[aq c1]);clear c1
   go_enter Tryz.func46,Tryz.ntmps46
   go_wp2;go_ret;refine⟨_,rfl,?_,Below.jE _ _ _⟩;rw[J.o];have G:=UY (w.alloc (.cells #[.int .i64 t.a,.int .i64 t.n,.slice I t.k.len sc] 54)) (.int .i64 t.n) 3;rw[World.size_alloc]at G;unfold Ints;refine Row.congr (c:=λ_=>.int .i64 t.n) (Row.mono G (by simp)) λi hi=> ?_;have:i=0:=by simp at hi;omega
   subst this;rfl
  have L:(t.a==1)=false:=by simpa using c1
  have J:Hd (cC t=G3 t.k (t.a==8) t.n 0 []):=hI (by unfold cC;rw[ah c1]);clear c1
  go_enter Tryz.func46,Tryz.ntmps46
  go_wp2;clear L
  go_loopw [3,4,5,6] (λov i _ _ wr=>∃(k:Nat) (out:List Int),k<=t.k.len/\i=.int .i64 k/\Ints wr wr.heap.size ov out/\out.length<=t.k.pre k/\cC t=G3 (t.k.drop k) (t.a==8) t.n k out/\Below w.heap.size w wr/\wr.heap[w.heap.size]? =some (.cells #[.int .i64 t.a,.int .i64 t.n,.slice I t.k.len sc] 54 (0,0))) (λ_ i _ _ _=>t.k.len-(intOf i).toNat)
  case atStart=>exact⟨0,[],aw _,rfl,Ints.nil _ _,by simp,by rw[Fo.drop_zero];exact J.o,Q.o,a_ _ _⟩
  case round=>
   obtain⟨k,out,hk,rfl,y,Ga,he,o,z⟩:=hrel;have c2:=fu z;have M:=t.k.ry k;have N:t.size=1+t.k.size:=rfl;by_cases A:k<t.k.len
   ·obtain⟨b,off,cap,p,pc,R,fF,f0,f1,f2,s⟩:=dC P.o o A;cases R;have E:=Fo.eD A;have K:=Fo.uW A;have f:=he.trans (Vc A _ _ _);have g:=O.o (t.k.at k) _ wr w.heap.size (by show 1+(t.k.at k).k.size<=m;omega) (by omega) ⟨_,rfl,s⟩ o.size;have hle:=iL (t.k.at k);have r:=t.k.ry (k+1);obtain⟨l,u⟩:=xE (cC (t.k.at k));rw[<-u]at f g hle;obtain⟨S,T,C,x,D⟩:=h_5 g f o z y;have G:out.length+l.length<=t.k.pre (k+1):=by omega
    have d:t.k.pre (k+1)<=400:=by omega
    have n:=hI (And.intro G d);clear g f o z y E K hle r u s N M he G d Ga hm F
    go_wp2_with fail
    refine S.o.mono ?_;rintro e U ⟨lv,rfl,d,G⟩;obtain⟨la,lc,rfl⟩:=d.slice;obtain⟨V,W,X,Y⟩:=h_4 d (ag C.o G lR) (Row.mono (D.o.below G lR) G.size) (cY G x.o);have t_:l.length<=400:=by have:=n.o;omega
    clear d G c2 f0 f1 f2 C D x;go_wp2;obtain⟨E,rfl⟩:∃E:World,E=U:=⟨_,rfl⟩
    go_loopw [3,6] (λov q G=>∃(j:Nat) (o2:List Int),j<=l.length/\q=.int .i64 j/\Ints G G.heap.size ov o2/\o2=sP (t.a==8&&k==1) t.n out (l.take j)/\Below E.heap.size E G) (λ_ q _=>l.length-(intOf q).toNat)
    case atStart=>exact⟨0,out,aw _,rfl,X.o,by rw[List.take_zero,Vb],bR⟩
    case round=>
     obtain⟨j,o2,hj,rfl,x,heq,r⟩:=hrel;have d:=cY r Y.o;have d0:=cZ d;have d1:=eY d;have Z:w.heap.size<wr.heap.size:=(gE d).1;have HO:=hI x;have yV:=hI r;by_cases Nf:j<l.length
     ·obtain⟨lb,lo,rfl,K,g⟩:=(V.o).2.elim λa h=>by
       obtain⟨cap,H,_,_,h⟩:=h;cases H;exact h (by omega)
      have l0:wr.cell? ⟨lb,lo+j,none⟩=some (.int .i64 (cN l j)):=(r.cell (p:=⟨lb,lo+j,none⟩) K).trans (g j (by omega));have zl:lb<wr.heap.size:=af l0;have G:=RO (t.a==8&&k==1) t.n out (l.take j) (cN l j);rw[<-Ej Nf,<-heq]at G;have Ga:o2.length<=1000:=by rw[heq];have s:=Ei (t.a==8&&k==1) t.n (l.take j) out;have h2:=n.o;have h3:=List.length_take_le j l;omega
      have RP:=hI G;have KZ:(j:Int)<(l.length:Int):=by omega
      clear g G x heq r d;by_cases f:t.a=8
      ·have n8:(t.a != 8)=false:=by simp[f]
       have g:(t.a==8)=true:=by simp[f]
       by_cases s:k=1
       ·have n1:((k:Int) != 1)=false:=by simp;omega
        have q1:(k==1)=true:=by simp[s]
        by_cases u:cN l j=t.n
        ·have nx:(cN l j != t.n)=false:=by simp[u]
         have hcut:((t.a==8&&k==1)&&cN l j==t.n)=true:=by rw[g,q1];simpa using u
         clear f s u g q1;have rQ:Hd (o2=sP (t.a==8&&k==1) t.n out (l.take (j+1))):=hI (by rw[RP.o,aq hcut]);clear hcut
         go_wp2_with fail
         refine aM (by kernel_rfl) (by kernel_rfl) ?_
         repeat go_big_quiet_step (fail)
         refine wpQuiet_nil ?_;intro w8 kM;have Gb:=hI (ag yV.o kM lR);have G:=hI (Row.mono (HO.o.below kM lR) kM.size);clear kM l0;go_wp2
         go_roundw
         case rel=>exact⟨j+1,o2,by omega,by go_num,G.o,rQ.o,Gb.o⟩
         case measure=>simp[intOf];omega
        ·have nx:(cN l j != t.n)=true:=by simpa using u
         have hcut:((t.a==8&&k==1)&&cN l j==t.n)=false:=by rw[g,q1];simpa using u
         clear f s u g q1;exact amu
       ·have n1:((k:Int) != 1)=true:=by simp;omega
        have q1:(k==1)=false:=by simpa using s
        have hcut:((t.a==8&&k==1)&&cN l j==t.n)=false:=by rw[q1];simp
        clear f s g q1;exact amu
      ·have n8:(t.a != 8)=true:=by simpa using f
       have g:(t.a==8)=false:=by simpa using f
       have hcut:((t.a==8&&k==1)&&cN l j==t.n)=false:=by rw[g];rfl
       clear f g;exact amu
     ·have G:j=l.length:=by omega
      have s:Hd (Ints wr wr.heap.size _ (sP (t.a==8&&k==1) t.n out l)):=hI (by rw[heq,G,bE]at x;exact x);have qW:=hI (ag W.o r lR);have f:=hI d;have hlen:=Ei (t.a==8&&k==1) t.n l out;have g:=hI hlen;clear x heq r d d0 d1 Z G hlen;go_wp2
      go_roundw
      case rel=>exact⟨k+1,_,by omega,by go_num,s.o,by have:=g.o;have:=n.o;omega,T.o,qW.o,f.o⟩
      case measure=>simp[intOf];omega
   ·have d:k=t.k.len:=by omega
    rw[Fo.ie (by omega)]at he;obtain⟨G,C,D⟩:=h_3 (show cC t=out from he) o y;clear he o y M N z;go_wp2;go_ret;exact⟨_,rfl,by rw[G.o];exact D.o,C.o⟩
def ou(p:Int->Int->Nat->Bool):Fo->Bool
 | .nil=>true
 | .cons a n k r=>p a n k.len&&ou p k&&ou p r
def ew(p:Int->Int->Nat->Bool)(t:Nd):Bool:=p t.a t.n t.k.len&&ou p t.k
theorem Jd:∀{F:Fo} {i:Nat},i<F.len->ew p (F.at i)=false->ou p F=false
 | .nil,_,h,_=>ay h (ax _)
 | .cons a n k r,0,_,h=>by
  show(p a n k.len&&ou p k&&ou p r)=false;rw[show(p a n k.len&&ou p k)=false from h];rfl
 | .cons a n k r,i+1,hi,h=>by
  show(p a n k.len&&ou p k&&ou p r)=false;rw[Jd (F:=r) (i:=i) (by unfold Fo.len at hi;omega) h];simp
theorem K9:∀{F:Fo},(∀i,i<F.len->ew p (F.at i)=true)->ou p F=true
 | .nil,_=>rfl
 | .cons a n k r,h=>by
  show(p a n k.len&&ou p k&&ou p r)=true;rw[show(p a n k.len&&ou p k)=true from h 0 (Nat.succ_pos _),K9 (F:=r) λi hi=>h (i+1) (Nat.succ_lt_succ hi)];rfl
theorem De{t:Nd}(hi:i<t.k.len)(h:ew p (t.k.at i)=false):ew p t=false:=by unfold ew;rw[Jd hi h];simp
theorem o8{t:Nd}(h:∀i,i<t.k.len->ew p (t.k.at i)=true):ew p t=p t.a t.n t.k.len:=by unfold ew;rw[K9 h];simp
def f_(v:Int)(a n:Int)(_:Nat):Bool:= !(a==1)&& !(a==8)||decide (n<v)
def iG(a _:Int)(_:Nat):Bool:=a==1||a==3
theorem yg(n:Int):∀(m:Nat) (t:Nd) (v:Value) (w:World) (B:Nat),t.size<=m->cV w B v t->B<=w.heap.size->aH Tryz.prog 154 #[v,.int .i64 n] w (.bool (ew (f_ n) t))
 |0,t,_,_,_,h,_,_=>ay h (by unfold Nd.size;omega)
 |m+1,t,v,w,B,hm,g,hB=>by
  obtain⟨sv,rfl,hs⟩:=g;have u:=hs.small;obtain⟨f,sc,rfl⟩:=hs.slice;have G:=yg n m;obtain⟨l,o,q,r⟩:=h_4 G (hs.mono hB) hm (Below.cA w (.cells #[.int .i64 t.a,.int .i64 t.n,.slice f t.k.len sc] 54));clear G hs hm;unfold aH
  go_enter Tryz.func154,Tryz.ntmps154
  go_wp2
  go_loopw [5] (λi wr=>∃k:Nat,k<=t.k.len/\i=.int .i64 k/\(∀j,j<k->ew (f_ n) (t.k.at j)=true)/\Below w.heap.size w wr/\wr.heap[w.heap.size]? =some (.cells #[.int .i64 t.a,.int .i64 t.n,.slice f t.k.len sc] 54 (0,0))) (λi _=>t.k.len-(intOf i).toNat)
  case atStart=>exact⟨0,aw _,rfl,λj hj=>ay hj (ax _),r.o,a_ _ _⟩
  case round=>
   obtain⟨k,x,rfl,G,c,a⟩:=hrel;have c0:=cZ a;have c1:=eY a;have c2:=fu a;obtain⟨dK,HB,HH⟩:=h_3 G c a;clear G;by_cases d:k<t.k.len
   ·obtain⟨b,off,cap,p,s,he,y,f0,f1,f2,G⟩:=dC o.o c d;cases he;have e:=Fo.eD d;have bZ:=l.o (t.k.at k) _ wr w.heap.size (by have:=q.o;have:t.size=1+t.k.size:=rfl;show 1+(t.k.at k).k.size<=m;omega) ⟨_,rfl,G⟩ c.size;clear G e c a;cases hs:ew (f_ n) (t.k.at k)
    case false=>
     have HF:Hd (ew (f_ n) t=false):=hI (De d hs);exact ans
    case true=>
     exact aop
   ·have e:k=t.k.len:=by omega
    subst e;have G:ew (f_ n) t=(f_ n) t.a t.n t.k.len:=o8 dK.o;clear c a;have HT:=hI (show ew (f_ n) t=f_ n t.a t.n t.k.len from G);clear G;by_cases h1:t.a=1
    ·have s:(t.a != 1)=false:=by simp[h1]
     have HV:Hd (f_ n t.a t.n t.k.len=decide (t.n<n)):=hI (by unfold f_;rw[h1];rfl);clear h1;go_wp2;go_ret;exact⟨by rw[HT.o,HV.o];rfl,HB.o⟩
    ·have s:(t.a != 1)=true:=by simpa using h1
     by_cases h8:t.a=8
     ·have n8:(t.a != 8)=false:=by simp[h8]
      have HV:Hd (f_ n t.a t.n t.k.len=decide (t.n<n)):=hI (by unfold f_;rw[h8];rfl);exact aoh
     ·have n8:(t.a != 8)=true:=by simpa using h8
      have HV:Hd (f_ n t.a t.n t.k.len=true):=hI (by unfold f_;rw[beq_eq_false_iff_ne.2 h1,beq_eq_false_iff_ne.2 h8];rfl);exact aoh
theorem G4:∀(m:Nat) (t:Nd) (v:Value) (w:World) (B:Nat),t.size<=m->cV w B v t->B<=w.heap.size->aH Tryz.prog 204 #[v] w (.bool (ew (iG) t))
 |0,t,_,_,_,h,_,_=>ay h (by unfold Nd.size;omega)
 |m+1,t,v,w,B,hm,g,hB=>by
  obtain⟨sv,rfl,hs⟩:=g;have s:=hs.small;obtain⟨f,sc,rfl⟩:=hs.slice;have e:=G4 m;obtain⟨l,n,o,q⟩:=h_4 e (hs.mono hB) hm (Below.cA w (.cells #[.int .i64 t.a,.int .i64 t.n,.slice f t.k.len sc] 54));clear e hs hm;unfold aH
  go_enter Tryz.func204,Tryz.ntmps204
  go_wp2
  go_loopw [3] (λi wr=>∃k:Nat,k<=t.k.len/\i=.int .i64 k/\(∀j,j<k->ew (iG) (t.k.at j)=true)/\Below w.heap.size w wr/\wr.heap[w.heap.size]? =some (.cells #[.int .i64 t.a,.int .i64 t.n,.slice f t.k.len sc] 54 (0,0))) (λi _=>t.k.len-(intOf i).toNat)
  case atStart=>exact⟨0,aw _,rfl,λj hj=>ay hj (ax _),q.o,a_ _ _⟩
  case round=>
   obtain⟨k,u,rfl,e,c,a⟩:=hrel;have c0:=cZ a;have c1:=eY a;have c2:=fu a;obtain⟨dK,HB,HH⟩:=h_3 e c a;clear e;by_cases d:k<t.k.len
   ·obtain⟨b,off,cap,p,r,he,x,f0,f1,f2,e⟩:=dC n.o c d;cases he;have G:=Fo.eD d;have bZ:=l.o (t.k.at k) _ wr w.heap.size (by have:=o.o;have:t.size=1+t.k.size:=rfl;show 1+(t.k.at k).k.size<=m;omega) ⟨_,rfl,e⟩ c.size;clear e G c a;cases hs:ew (iG) (t.k.at k)
    case false=>
     have HF:Hd (ew (iG) t=false):=hI (De d hs);exact ans
    case true=>
     exact aop
   ·have r:k=t.k.len:=by omega
    subst r;have e:ew (iG) t=(iG) t.a t.n t.k.len:=o8 dK.o;clear c a;have HT:=hI (show ew iG t=iG t.a t.n t.k.len from e);clear e;cases G:(t.a==1)
    ·have e:Hd (iG t.a t.n t.k.len=(t.a==3)):=hI (by unfold iG;rw[G];rfl);go_wp2;go_ret;exact⟨by rw[HT.o,e.o];rfl,HB.o⟩
    ·have e:Hd (iG t.a t.n t.k.len=true):=hI (by unfold iG;rw[G];rfl);go_wp2;go_ret;exact⟨by rw[HT.o,e.o];rfl,HB.o⟩
def kz(l:List Int)(n:Int):Nat:=(l.filter λx=>x==n).length
theorem K_(l:List Int)(k:Nat)(n:Int)(h:k<l.length):kz (l.take (k+1)) n=kz (l.take k) n+if cN l k=n then 1 else 0:=by
 rw[Ej h];unfold kz;rw[List.filter_append,az,bp];by_cases e:cN l k=n
 ·rw[aq e,aq (by simpa using e)];rfl
 ·rw[ah e,ah (by simpa using e)];rfl
theorem G5(l:List Int)(n:Int):kz l n<=l.length:=List.length_filter_le _ _
theorem qX(l:List Int)(n:Int)(v:Value)(w:World)(j:Ints w B v l):
 Calls Tryz.prog 206 #[v,.int .i64 n] w λe w'=>e=.returned (.int .i64 (kz l n:Nat))/\w'=w:=by
 obtain⟨t,a,c,rfl,_,_,d⟩:=j;have m:=hI d;clear d
 go_enter Tryz.func206,Tryz.ntmps206
 go_wp2
 go_loop [5,6] (λo i=>∃k:Nat,k<=l.length/\i=.int .i64 k/\o=.int .i64 (kz (l.take k) n:Nat)) (λ_ i=>l.length-(intOf i).toNat)
 case atStart=>exact⟨0,aw _,rfl,rfl⟩
 case round=>
  obtain⟨k,u,rfl,rfl⟩:=hrel;by_cases p:k<l.length
  ·obtain⟨b,off,rfl,_,f⟩:=m.o (by omega);have c0:w.cell? ⟨b,off+k,none⟩=some (.int .i64 (cN l k)):=f k (by omega);have d:=K_ l k n p;have hle:=G5 (l.take k) n;have r:=List.length_take_le k l;obtain⟨q,g⟩:=xE (kz (l.take k) n);rw[<-g]at d hle |-;have s:q<=140737488355328:=by omega
   clear f g hle r;by_cases he:cN l k=n
   ·have g:(cN l k==n)=true:=by simpa using he
    rw[aq he]at d;have f:=hI d;clear he d;go_wp2
    go_round
    case rel=>exact⟨k+1,by omega,by go_num,by rw[f.o];go_num⟩
    case measure=>simp[intOf];omega
   ·have g:(cN l k==n)=false:=by simpa using he
    rw[ah he]at d;have f:=hI d;clear he d;go_wp2
    go_round
    case rel=>exact⟨k+1,by omega,by go_num,by rw[f.o];rfl⟩
    case measure=>simp[intOf];omega
  ·have d:k=l.length:=by omega
   subst d;rw[bE];go_wp2;go_ret;exact⟨rfl,rfl⟩
theorem B2(a:Option Addr)(n c:Nat)(w:World):aH Tryz.prog 157 #[.slice a n c] w (.agg #[.int .i64 0,.int .i64 0,.slice a n c]):=by
 unfold aH
 go_enter Tryz.func157,Tryz.ntmps157
 go_wp2;exact bodyPost_ret (v:=.agg #[.int .i64 0,.int .i64 0,.slice a n c]) (by simp[results,Tryz.results157,go_sem]) rfl ⟨rfl,Below.cA _ _⟩
def u7:Fo->List Int
 | .nil=>[]
 | .cons a n k r=>(if a=8 then[n]else[])++u7 k++u7 r
def kC(t:Nd):List Int:=(if t.a=8 then[t.n]else[])++u7 t.k
def pM:Fo->Nat->List Int
 | .nil,_=>[]
 | .cons _ _ _ _,0=>[]
 | .cons a n k r,i+1=>((if a=8 then[n]else[])++u7 k)++pM r i
theorem yh(F:Fo):pM F 0=[]:=by cases F<;>rfl
theorem yj:∀{F:Fo} {i:Nat},i<F.len->pM F (i+1)=pM F i++kC (F.at i)
 | .nil,_,h=>ay h (ax _)
 | .cons a n k r,0,_=>by
  show((if a=8 then[n]else[])++u7 k)++pM r 0=[]++kC ⟨a,n,k⟩;rw[yh,bk,bL]
  rfl
 | .cons a n k r,i+1,h=>by
  have:=yj (F:=r) (i:=i) (by unfold Fo.len at h;omega);show _++pM r (i+1)=(_++pM r i)++kC (r.at i);rw[this];simp only[aG]
theorem Bh:∀F:Fo,pM F F.len=u7 F
 | .nil=>rfl
 | .cons a n k r=>by show _++pM r r.len=_;rw[Bh r];rfl
theorem sQ:∀F:Fo,(u7 F).length<=F.size
 | .nil=>lR
 | .cons a n k r=>by
  have b:=sQ k;have c:=sQ r;unfold u7 Fo.size;exact aod
theorem yl(t:Nd):(kC t).length<=t.size:=by
 have a:=sQ t.k;unfold kC Nd.size;rw[az];have:(if t.a=8 then[t.n]else[]).length<=1:=by split<;>simp
 omega
theorem Ek(F:Fo):∀(i:Nat),(pM F i).length<=F.pre i:=by
 induction F with
 |nil=>intro i;exact aw _
 |cons a n k r _ b=>
  intro i;cases i with
  |zero=>exact aw _
  |succ i=>
   have c:=sQ k;have d:=b i;show(((if a=8 then[n]else[])++u7 k)++pM r i).length<=1+k.size+r.pre i;exact aod
theorem Em:∀(m:Nat) (t:Nd) (v:Value) (w:World) (B:Nat),t.size<=m->m<=400->cV w B v t->B<=w.heap.size->
 Calls Tryz.prog 205 #[v] w (RM w (kC t))
 |0,t,_,_,_,h,_,_,_=>ay h (by unfold Nd.size;omega)
 |m+1,t,v,w,B,hm,hm9,s,hB=>by
  obtain⟨sv,rfl,b⟩:=s;have y:=b.small;obtain⟨sa,sc,rfl⟩:=b.slice;have e:=Em m;obtain⟨HI,HS,u,x⟩:=h_4 e (b.mono hB) (Below.cA w (.cells #[.int .i64 t.a,.int .i64 t.n,.slice sa t.k.len sc] 54)) (a_ w (.cells #[.int .i64 t.a,.int .i64 t.n,.slice sa t.k.len sc] 54));clear e b;obtain⟨j0,CJ,CL,CM,CN⟩:=info_parts Tryz.BZ;obtain⟨h0,a⟩:∃h0:List Int,h0=if t.a=8 then[t.n]else[]:=⟨_,rfl⟩;have aho:=hI a;have HH0:Hd (h0.length<=1):=hI (by rw[a];split<;>simp);by_cases c:t.a=8
  ·have f:(t.a==8)=true:=by simpa using c
   rw[aq c]at a;have g:=hI a;clear c a
   go_enter Tryz.func205,Tryz.ntmps205
   go_wp2_with (at_builtin;refine wpList_append_own _ rfl _ _ 74 rfl w.heap.size 3 j0 _ 1 8 Tryz.underlying74 CJ CL CM CN rfl (by decide) _ 0 _ rfl (aZ _ _ _ _) ⟨w.heap.size+1,0,none⟩ 1 1 [.int .i64 t.n] rfl rfl (zI (cH _ _ _).2) (one_one rfl) (by unfold maxLen;omega) (by omega) (by simp;omega) ?_;intro v1 w1 n d _)
   have d:World.grownBy _ w1 none:=d;have o:=(d.block w.heap.size (by simp;omega) (by simp)).trans (cH w (.cells #[.int .i64 t.a,.int .i64 t.n,.slice sa t.k.len sc] 54) (.cells #[.int .i64 t.n] 3)).1;have r:=(Below.jE w (.cells #[.int .i64 t.a,.int .i64 t.n,.slice sa t.k.len sc] 54) (.cells #[.int .i64 t.n] 3)).grown d (by simp;omega) (λq hq=>by cases hq);have HO0:Hd (w1.ownsRow w.heap.size 3 1 v1 h0.length (cE h0)):=hI (by rw[g.o];simpa [cE,eT] using n);have nY:=hI o;have P9:=hI r;clear n d o r f;go_wp2;exact amr
  ·have f:(t.a==8)=false:=by simpa using c
   rw[ah c]at a;have g:=hI a;clear c a
   go_enter Tryz.func205,Tryz.ntmps205
   go_wp2;clear f;have HO0:Hd ((w.alloc (.cells #[.int .i64 t.a,.int .i64 t.n,.slice sa t.k.len sc] 54)).ownsRow w.heap.size 3 1 (.slice none 0 0) h0.length (cE h0)):=hI (by rw[g.o];exact aZ _ _ _ _);have P9:=hI u.o;have nY:=hI x.o;exact amr
def nH:Fo->List Int->List Int×Bool
 | .nil,bs=>(bs,true)
 | .cons a n k r,bs=>
  if(if a=1 then(lr bs n,!mH bs n)else nH k bs).2 then nH r (if a=1 then(lr bs n,!mH bs n)else nH k bs).1
  else(if a=1 then(lr bs n,!mH bs n)else nH k bs)
def iD(t:Nd)(bs:List Int):List Int×Bool:=if t.a=1 then(lr bs t.n,!mH bs t.n)else nH t.k bs
theorem Bi(a n:Int)(k r:Fo)(bs:List Int):nH (.cons a n k r) bs=if(iD ⟨a,n,k⟩ bs).2 then nH r (iD ⟨a,n,k⟩ bs).1 else iD ⟨a,n,k⟩ bs:=rfl
theorem Bj:∀(F:Fo) (bs:List Int),(nH F bs).1.length<=bs.length+F.size
 | .nil,bs=>lR
 | .cons a n k r,bs=>by
  have b:(iD ⟨a,n,k⟩ bs).1.length<=bs.length+(1+k.size):=by
   unfold iD
   split
   ·have:=Eh bs n;show(lr bs n).length<=_;omega
   ·have:=Bj k bs;show(nH k bs).1.length<=_;omega
  rw[Bi];unfold Fo.size
  split
  ·have:=Bj r (iD ⟨a,n,k⟩ bs).1;omega
  ·omega
theorem RQ(t:Nd)(bs:List Int):(iD t bs).1.length<=bs.length+t.size:=by
 unfold iD Nd.size
 split
 ·have:=Eh bs t.n;show(lr bs t.n).length<=_;omega
 ·have:=Bj t.k bs;omega
theorem RS{F:Fo}(h:i<F.len)(bs:List Int):nH (F.drop i) bs=if(iD (F.at i) bs).2 then nH (F.drop (i+1)) (iD (F.at i) bs).1 else iD (F.at i) bs:=by
 rw[Fo.mr h,Bi]
abbrev Z4:Oper:=⟨some 11,.move (.tmp 1),74,bY,#[],none⟩
abbrev Z5:Oper:=⟨some 12,.fieldAddr 54 (.tmp 2) 1,0,bY,#[],none⟩
abbrev Z6:Oper:=⟨some 13,.load 3 (.tmp 12),3,bY,#[aj 1],none⟩
abbrev Z7:Oper:=⟨some 14,.call ⟨.value (.func 123),#[.tmp 11,.tmp 13],#[74,3]⟩,74,bY,#[aj 0,aj 2],none⟩
abbrev Z8:Oper:=⟨some 15,.move (.tmp 1),74,bY,#[],none⟩
abbrev Z9:Oper:=⟨some 16,.fieldAddr 54 (.tmp 2) 1,0,bY,#[],none⟩
abbrev Z_:Oper:=⟨some 17,.load 3 (.tmp 16),3,bY,#[aj 5],none⟩
abbrev aab:Oper:=⟨some 18,.call ⟨.value (.func 207),#[.tmp 15,.tmp 17],#[74,3]⟩,4,bY,#[aj 4,aj 6,ao 3],none⟩
abbrev aac:Oper:=⟨some 19,.unOp .not 4 (.tmp 18),4,bY,#[aj 7,{ on:=9,ground:=Ground.gcOnly Go.Departure.lateStores}],none⟩
abbrev aad:Oper:=⟨some 4,.assign (.tmp 14),74,bY,#[aj 3,ao 7,al 0,al 1,al 2,al 3,{ on:=4,ground:=Ground.textOnly Go.Departure.lateStores},{ on:=5,ground:=Ground.textOnly Go.Departure.lateStores},{ on:=6,ground:=Ground.textOnly Go.Departure.lateStores},{ on:=7,ground:=Ground.textOnly Go.Departure.lateStoresUnsure},{ on:=8,ground:=Ground.textOnly Go.Departure.lateStores}],none⟩
abbrev Vf:Oper:=⟨some 5,.assign (.tmp 19),4,bY,#[aj 8,ao 9,al 0,al 1,al 2,al 3,al 4,al 5,al 6,al 7,al 8,al 9],none⟩
def Vg:Array Oper:= #[Z4,Z5,Z6,Z7,Z8,Z9,Z_,aab,aac,aad,Vf]
def acR(w:World)(r:List Int×Bool)(e:Ending)(w':World):Prop:=∃v,e=.returned (.tuple #[v,.bool r.2])/\Ints w' w'.heap.size v r.1/\Below w.heap.size w w'
theorem Eo:∀(m:Nat) (t:Nd) (bs:List Int) (v bv:Value) (w:World) (B:Nat),t.size<=m->bs.length+t.size<=400->cV w B v t->Ints w B bv bs->B<=w.heap.size->
 Calls Tryz.prog 203 #[v,bv] w (acR w (iD t bs))
 |0,t,_,_,_,_,_,h,_,_,_,_=>ay h (by unfold Nd.size;omega)
 |m+1,t,bs,v,bv,w,B,hm,O,P,f,hB=>by
  obtain⟨sv,rfl,a⟩:=P;have Bc:=a.small;obtain⟨y,sc,rfl⟩:=a.slice;obtain⟨ba,bc,rfl⟩:=f.slice;have l:=Eo m;have Q:=hI l;have R:=hI (a.mono hB);obtain⟨W,d⟩:=xE (w.alloc (.cells #[.int .i64 t.a,.int .i64 t.n,.slice y t.k.len sc] 54));have s:Hd (Below w.heap.size w W):=hI (by rw[d];exact Below.cA _ _);have I:Hd (W.heap[w.heap.size]? =some (.cells #[.int .i64 t.a,.int .i64 t.n,.slice y t.k.len sc] 54 (0,0))):=hI (by rw[d];exact a_ _ _);have J:=hI (Row.mono ((Row.mono f hB).below s.o lR) s.o.size);have L:=hI d;clear l a f d;by_cases j:t.a=1
  ·have z:(t.a==1)=true:=by simpa using j
   have u:Hd (iD t bs=(lr bs t.n,!mH bs t.n)):=hI (by unfold iD;rw[aq j]);clear j
   go_enter Tryz.func203,Tryz.ntmps203
   go_wp2;rw[<-L.o];have c1:=eY I.o;clear z;refine wp_region_held_drew (S:=λV=>V.cell? ⟨w.heap.size,1,none⟩=some (.int .i64 t.n)) (by kernel_rfl) c1 (λhHeld=> ?_)
   change wpAnyH _ _ Vg _ _ _ _ _ _
   refine kL (λZ=>Below W.heap.size W Z) (Below.ia bR) hHeld ?_;clear hHeld c1;rintro V l hHeld;have d:=hI (Row.mono (J.o.below l lR) l.size);have n:=hI (ag s.o l lR);clear l;refine qA 0 ⟨some 11,.move (.tmp 1),74,bY,#[],none⟩ hHeld ?_;refine qA 1 ⟨some 12,.fieldAddr 54 (.tmp 2) 1,0,bY,#[],none⟩ hHeld ?_;refine qA 2 ⟨some 13,.load 3 (.tmp 12),3,bY,#[aj 1],none⟩ hHeld ?_;refine qA 4 ⟨some 15,.move (.tmp 1),74,bY,#[],none⟩ hHeld ?_;refine qA 5 ⟨some 16,.fieldAddr 54 (.tmp 2) 1,0,bY,#[],none⟩ hHeld ?_;refine qA 6 ⟨some 17,.load 3 (.tmp 16),3,bY,#[aj 5],none⟩ hHeld ?_;refine qR 3 ⟨some 14,.call ⟨.value (.func 123),#[.tmp 11,.tmp 13],#[74,3]⟩,74,bY,#[aj 0,aj 2],none⟩ λK a=> ?_;go_simp;refine(we bs t.n (.slice ba bs.length bc) V d.o lR (by omega)).mono ?_;rintro e E ⟨A,rfl,g,c⟩
   go_wp2_with fail
   have q:=(c.cell (p:=⟨w.heap.size,1,none⟩) (by have:=af hHeld;exact this)).trans hHeld;refine qK a (q) λhHeld=> ?_;clear a K;obtain⟨l,o,C⟩:=h_3 g (d.o.below c lR) (ag n.o c lR);clear g c q;refine qR 7 ⟨some 18,.call ⟨.value (.func 207),#[.tmp 15,.tmp 17],#[74,3]⟩,4,bY,#[aj 4,aj 6,ao 3],none⟩ λK a=> ?_;go_simp;refine(oZ bs t.n (.slice ba bs.length bc) E o.o).mono ?_;rintro e w' ⟨rfl,x⟩;rw[x];clear x w'
   go_wp2_with fail
   refine qK a (hHeld) λhHeld=> ?_;clear a K;refine qA 8 ⟨some 19,.unOp .not 4 (.tmp 18),4,bY,#[aj 7,{ on:=9,ground:=Ground.gcOnly Go.Departure.lateStores}],none⟩ hHeld ?_;refine qR 9 ⟨some 4,.assign (.tmp 14),74,bY,#[aj 3,ao 7,al 0,al 1,al 2,al 3,{ on:=4,ground:=Ground.textOnly Go.Departure.lateStores},{ on:=5,ground:=Ground.textOnly Go.Departure.lateStores},{ on:=6,ground:=Ground.textOnly Go.Departure.lateStores},{ on:=7,ground:=Ground.textOnly Go.Departure.lateStoresUnsure},{ on:=8,ground:=Ground.textOnly Go.Departure.lateStores}],none⟩ λK a=> ?_;go_simp;refine qK a (hHeld) λhHeld=> ?_;clear a K;refine qR 10 ⟨some 5,.assign (.tmp 19),4,bY,#[aj 8,ao 9,al 0,al 1,al 2,al 3,al 4,al 5,al 6,al 7,al 8,al 9],none⟩ λK a=> ?_;go_simp;refine qK a (hHeld) λhHeld=> ?_;clear a K;refine wpAnyH_done (by kernel_rfl) ?_ _;clear hHeld;go_wp2
   go_ret2
   exact⟨A,by rw[u.o];rfl,by rw[u.o];exact l.o,C.o⟩
  ·have z:(t.a==1)=false:=by simpa using j
   have u:Hd (iD t bs=nH t.k bs):=hI (by unfold iD;rw[ah j]);clear j
   go_enter Tryz.func203,Tryz.ntmps203
   go_wp2;rw[<-L.o];clear z
   go_loopw [1,6,7] (λov is i wr=>∃(k:Nat) (a:List Int) (x:Bool),k<=t.k.len/\i=.int .i64 k/\is=.bool x/\Ints wr wr.heap.size ov a/\iD t bs=(if x then nH (t.k.drop k) a else(a,false))/\a.length<=bs.length+t.k.pre k/\Below w.heap.size w wr/\wr.heap[w.heap.size]? =some (.cells #[.int .i64 t.a,.int .i64 t.n,.slice y t.k.len sc] 54 (0,0))) (λ_ _ i _=>t.k.len-(intOf i).toNat)
   case atStart=>exact⟨0,bs,true,aw _,rfl,rfl,J.o,by rw[aq rfl,Fo.drop_zero];exact u.o,by omega,s.o,I.o⟩
   case round=>
    obtain⟨k,a,x,hk,rfl,rfl,g,heq,A,d,l⟩:=hrel;have c2:=fu l;have C:=t.k.ry k;have T:t.size=1+t.k.size:=rfl;obtain⟨oa,oc,rfl⟩:=g.slice;cases x
    case false=>
     rw[ah (by simp)]at heq;obtain⟨n,o,D⟩:=h_3 heq d g;clear heq d g l C A;by_cases q:k<t.k.len
     all_goals
      go_wp2
      go_ret2
      exact⟨_,by rw[n.o];rfl,by rw[n.o];exact D.o,o.o⟩
    case true=>
     rw[aq rfl]at heq;by_cases q:k<t.k.len
     ·obtain⟨b,off,cap,p,pc,U,fF,f0,f1,f2,M⟩:=dC R.o d q;cases U;have X:=Fo.eD q;have Y:=Fo.uW q;have hle:=RQ (t.k.at k) a;have E:=t.k.ry (k+1);have F:=Q.o (t.k.at k) a _ _ wr wr.heap.size (by show 1+(t.k.at k).k.size<=m;omega) (by omega) ⟨_,rfl,M.mono d.size⟩ g lR;have G:=heq.trans (RS q a);obtain⟨r,N⟩:=xE (iD (t.k.at k) a);rw[<-N]at G F hle;obtain⟨HC,fG,o,HH,H⟩:=h_5 F G d l (show r.1.length<=bs.length+t.k.pre (k+1)by omega);clear F G d l X Y hle E N M T C heq A g
      go_wp2_with fail
      refine HC.o.mono ?_;rintro e N ⟨rv,rfl,E,c⟩;obtain⟨F,G,M⟩:=h_3 E (ag o.o c lR) (cY c HH.o);clear E c c2 f0 f1 f2;obtain⟨r1,r2⟩:=r;go_wp2
      go_roundw
      case rel=>exact⟨k+1,r1,r2,by omega,by go_num,rfl,F.o,by
       rw[fG.o];cases r2
       ·rfl
       ·rfl,H.o,G.o,M.o⟩
      case measure=>simp[intOf];omega
     ·have E:k=t.k.len:=by omega
      rw[Fo.ie (by omega)]at heq;obtain⟨n,o,D⟩:=h_3 (show iD t bs=(a,true)from heq) d g;clear heq d g l C A;go_wp2
      go_ret2
      exact⟨_,by rw[n.o];rfl,by rw[n.o];exact D.o,o.o⟩
def Er(t:Nd):Bool:=(iD t []).2&&ew iG t
theorem Gc(t:Nd)(v:Value)(w:World)(B:Nat)(hm:t.size<=400)(b:cV w B v t)(hB:B<=w.heap.size):aH Tryz.prog 153 #[v] w (.bool (Er t)):=by
 have f:Hd (∀W,Below w.heap.size w W->Calls Tryz.prog 203 #[v,.slice none 0 0] W (acR W (iD t []))):=hI λW G=>Eo _ t [] v _ W w.heap.size lR (by simpa using hm) ((b.mono hB).below G lR) (Ints.nil _ _) G.size;have g:Hd (∀W,Below w.heap.size w W->aH Tryz.prog 204 #[v] W (.bool (ew iG t))):=hI λW G=>G4 _ t v W w.heap.size lR ((b.mono hB).below G lR) G.size;obtain⟨kv,rfl,a⟩:=b;obtain⟨ka,kc,rfl⟩:=a.slice;obtain⟨W,G⟩:=xE (w.alloc (.cells #[.int .i64 t.a,.int .i64 t.n,.slice ka t.k.len kc] 54));have d:Hd (Below w.heap.size w W):=hI (by rw[G];exact Below.cA w _);have i:Hd (W.heap[w.heap.size]? =some (.cells #[.int .i64 t.a,.int .i64 t.n,.slice ka t.k.len kc] 54 (0,0))):=hI (by rw[G];exact a_ _ _);have j:=hI G;clear a G hm;unfold aH
 go_enter Tryz.func153,Tryz.ntmps153
 go_wp2_with fail
 rw[<-j.o];refine(f.o _ d.o).mono ?_;rintro e l ⟨rv,rfl,k,c⟩;have cR:=hI (ag d.o c lR);have G:=cY c i.o;have d0:=cZ G;have d1:=eY G;have d2:=fu G;clear c G k;cases a:(iD t []).2
 case false=>
  have HV:Hd (Er t=false):=hI (by unfold Er;rw[a];rfl);clear a;go_wp2;go_ret;exact⟨by rw[HV.o];rfl,cR.o⟩
 case true=>
  have HV:Hd (Er t=ew iG t):=hI (by unfold Er;rw[a];rfl);clear a
  go_wp2_with fail
  refine(g.o _ cR.o).mono ?_;exact anp
def ym:Fo->Nat->Nat
 | .nil,_=>0
 | .cons _ _ _ _,0=>0
 | .cons a n k r,i+1=>(cC ⟨a,n,k⟩).length+ym r i
theorem G6(F:Fo):ym F 0=0:=by cases F<;>rfl
theorem G7:∀{F:Fo} {i:Nat},i<F.len->ym F (i+1)=ym F i+(cC (F.at i)).length
 | .nil,_,h=>ay h (ax _)
 | .cons a n k r,0,_=>by show(cC ⟨a,n,k⟩).length+ym r 0=0+(cC ⟨a,n,k⟩).length;rw[G6];omega
 | .cons a n k r,i+1,h=>by
  have:=G7 (F:=r) (i:=i) (by unfold Fo.len at h;omega);show _+ym r (i+1)=(_+ym r i)+(cC (r.at i)).length;omega
theorem Qg:∀(F:Fo) (i:Nat),ym F i<=F.pre i
 | .nil,_=>lR
 | .cons a n k r,0=>lR
 | .cons a n k r,i+1=>by
  have b:=iL ⟨a,n,k⟩;have c:=Qg r i;show(cC ⟨a,n,k⟩).length+ym r i<=1+k.size+r.pre i;have:(Nd.mk a n k).size=1+k.size:=rfl;omega
def Gd(F:Fo):Bool:=ym F F.len==(cC ⟨0,0,F⟩).length
theorem Jf(F:Fo)(v:Value)(w:World)(B:Nat)(hm:F.size<=390)(m:dr w B v F)(hB:B<=w.heap.size):aH Tryz.prog 155 #[v] w (.bool (Gd F)):=by
 have M:=m.small;obtain⟨y,sc,rfl⟩:=m.slice;have A:=hI (m.mono hB);clear m;unfold aH
 go_enter Tryz.func155,Tryz.ntmps155
 go_wp2
 go_loopw [3,4] (λs i wr=>∃k:Nat,k<=F.len/\i=.int .i64 k/\s=.int .i64 (ym F k:Nat)/\Below w.heap.size w wr) (λ_ i _=>F.len-(intOf i).toNat)
 case atStart=>exact⟨0,aw _,rfl,by rw[G6];rfl,bR⟩
 case round=>
  obtain⟨k,N,rfl,rfl,c⟩:=hrel;have a:=Qg F k;have C:=F.ry k;by_cases o:k<F.len
  ·obtain⟨b,off,cap,p,K,D,L,f0,f1,f2,j⟩:=dC A.o c o;cases D;have E:=Fo.eD o;have d:=pL 391 (F.at k) _ wr w.heap.size (by show 1+(F.at k).k.size<=391;omega) (by omega) ⟨_,rfl,j⟩ c.size;have r:=iL (F.at k);have g:=G7 o;have t:(cC (F.at k)).length<=400:=by have:(F.at k).size=1+(F.at k).k.size:=rfl;omega
   obtain⟨l,n⟩:=xE (cC (F.at k));obtain⟨q,f⟩:=xE (ym F k);rw[<-n]at d g t;rw[<-f]at g a |-;have G:q<=400:=by omega
   obtain⟨u,x,H⟩:=h_3 d c g;clear d c j E r g n f a C
   go_wp2_with fail
   refine u.o.mono ?_;rintro e I ⟨lv,rfl,g,j⟩;obtain⟨J,lc,rfl⟩:=g.slice;have n:=hI (ag x.o j lR);clear g j f0 f1 f2;go_wp2
   go_roundw
   case rel=>exact⟨k+1,by omega,by go_num,by rw[H.o];go_num,n.o⟩
   case measure=>simp[intOf];omega
  ·have G:k=F.len:=by omega
   subst G;obtain⟨q,f⟩:=xE (ym F F.len);have d:∀W,Below w.heap.size w W->Calls Tryz.prog 46 #[.agg #[.int .i64 0,.int .i64 0,.slice y F.len sc]] W (RM W (cC ⟨0,0,F⟩)):=λW t=>pL 391 ⟨0,0,F⟩ _ W w.heap.size (by show 1+F.size<=391;omega) (by omega) ⟨_,rfl,A.o.below t lR⟩ t.size;have r:=iL ⟨0,0,F⟩;have H:Hd ((cC ⟨0,0,F⟩).length<=400):=hI (by have:(Nd.mk 0 0 F).size=1+F.size:=rfl;omega);have D:Hd (Gd F=(q==(cC ⟨0,0,F⟩).length)):=hI (by rw[f];rfl);rw[<-f]at a |-;have u:=hI d;have x:=hI c;clear d c f a C r
   go_wp2_with fail
   refine(B2 y F.len sc wr).mono ?_;rintro e I ⟨rfl,j⟩;have n:=hI (ag x.o j lR);clear j
   go_wp2_with fail
   refine(u.o _ n.o).mono ?_;rintro e O ⟨lv,rfl,g,E⟩;obtain⟨J,lc,rfl⟩:=g.slice;have K:=hI (ag n.o E lR);clear g E;obtain⟨z,t⟩:=xE ((cC ⟨0,0,F⟩).length);have L:z<=400:=by rw[t];exact H.o
   rw[<-t]at D |-;clear t;have E:((q:Int)==(z:Int))=(q==z):=by rw[aP];simp;omega
   go_wp2;go_ret;exact⟨by rw[D.o];rfl,K.o⟩
def Bk(l ps a:List Int)(x:Int):Bool:= !decide (1<kz l x)&& !mH ps x&& !mH a x
def pN(t:Nd)(ps:List Int):Bool:=(kC t).all (Bk (kC t) ps (cC t))
theorem aaf{l:List Int}{p:Int->Bool}(a:k<l.length)(h:p (cN l k)=false):l.all p=false:=by
 rw[b5];intro hc;have:=aK.1 hc (cN l k) (by unfold cN;rw[ae a];exact aR a);rw[h]at this;cases this
theorem Vi{l:List Int}{p:Int->Bool}(h:∀k,k<l.length->p (cN l k)=true):l.all p=true:=by
 rw[aK];intro x b;obtain⟨k,a,rfl⟩:=bC.1 b;have:=h k a;unfold cN at this;rwa [ae a]at this
abbrev Vj:Oper:=⟨some 8,.load 54 (.tmp 2),54,cl,#[],none⟩
abbrev Vk:Oper:=⟨some 9,.call ⟨.value (.func 205),#[.tmp 8],#[54]⟩,74,cl,#[aj 0],none⟩
abbrev Vl:Oper:=⟨some 10,.load 54 (.tmp 2),54,cl,#[],none⟩
abbrev Vm:Oper:=⟨some 11,.call ⟨.value (.func 46),#[.tmp 10],#[54]⟩,74,cl,#[aj 2,ao 1],none⟩
abbrev Vn:Oper:=⟨some 5,.assign (.tmp 9),74,cl,#[aj 1,ao 3,al 0,al 1,{ on:=2,ground:=Ground.textOnly Go.Departure.lateStores},{ on:=3,ground:=Ground.textOnly Go.Departure.lateStoresUnsure}],none⟩
abbrev Vo:Oper:=⟨some 6,.assign (.tmp 11),74,cl,#[aj 3,ao 4,al 0,al 1,al 2,al 3,al 4],none⟩
def RT:Array Oper:= #[Vj,Vk,Vl,Vm,Vn,Vo]
theorem La(t:Nd)(ps:List Int)(v H:Value)(w:World)(B:Nat)(hm:t.size<=400)(x:cV w B v t)(hp:Ints w B H ps)(hB:B<=w.heap.size):
 aH Tryz.prog 156 #[v,H] w (.bool (pN t ps)):=by
 have y:Hd (∀W,Below w.heap.size w W->Calls Tryz.prog 205 #[v] W (RM W (kC t))):=hI λW a=>Em 400 t v W w.heap.size hm lR ((x.mono hB).below a lR) a.size;have z:Hd (∀W,Below w.heap.size w W->Calls Tryz.prog 46 #[v] W (RM W (cC t))):=hI λW a=>pL 400 t v W w.heap.size hm lR ((x.mono hB).below a lR) a.size;have c:=yl t;have d:=iL t;have Q:=hI (show(kC t).length<=400/\(cC t).length<=400 by omega);obtain⟨kv,rfl,A⟩:=x;obtain⟨ka,kc,rfl⟩:=A.slice;obtain⟨pa,pc,rfl⟩:=hp.slice;obtain⟨W,a⟩:=xE (w.alloc (.cells #[.int .i64 t.a,.int .i64 t.n,.slice ka t.k.len kc] 54));have R:Hd (Below w.heap.size w W):=hI (by rw[a];exact Below.cA w _);have C:Hd (W.heap[w.heap.size]? =some (.cells #[.int .i64 t.a,.int .i64 t.n,.slice ka t.k.len kc] 54 (0,0))):=hI (by rw[a];exact a_ _ _);have T:=hI a;have U:=hI (Row.mono hp hB);clear A a hm c d hp;unfold aH
 go_enter Tryz.func156,Tryz.ntmps156
 go_wp2;rw[<-T.o];have c:W.cell? ⟨w.heap.size,0,none⟩=some (.int .i64 t.a)/\W.cell? ⟨w.heap.size,1,none⟩=some (.int .i64 t.n)/\W.cell? ⟨w.heap.size,2,none⟩=some (.slice ka t.k.len kc):=
  ⟨by rw[cell_of_row _ _ _ _ _ _ C.o];rfl,by rw[cell_of_row _ _ _ _ _ _ C.o];rfl,by rw[cell_of_row _ _ _ _ _ _ C.o];rfl⟩
 refine wp_region_held_drew (S:=λV=>V.cell? ⟨w.heap.size,0,none⟩=some (.int .i64 t.a)/\V.cell? ⟨w.heap.size,1,none⟩=some (.int .i64 t.n)/\V.cell? ⟨w.heap.size,2,none⟩=some (.slice ka t.k.len kc)) (by kernel_rfl) c (λhHeld=> ?_)
 change wpAnyH _ _ RT _ _ _ _ _ _
 refine kL (λZ=>Below w.heap.size w Z) (Below.ia R.o) hHeld ?_;clear hHeld c;rintro V d hHeld;have I:=hI d;clear d;refine qA 0 ⟨some 8,.load 54 (.tmp 2),54,cl,#[],none⟩ hHeld ?_;refine qA 2 ⟨some 10,.load 54 (.tmp 2),54,cl,#[],none⟩ hHeld ?_;refine qR 1 ⟨some 9,.call ⟨.value (.func 205),#[.tmp 8],#[54]⟩,74,cl,#[aj 0],none⟩ λK a=> ?_;go_simp;refine(y.o V I.o).mono ?_;rintro e X ⟨lv,rfl,m,f⟩
 go_wp2_with fail
 have g:=acP hHeld f;refine qK a (g) λhHeld=> ?_;clear a K;have D:=hI m;have J:=hI (ag I.o f lR);clear m f g;refine qR 3 ⟨some 11,.call ⟨.value (.func 46),#[.tmp 10],#[54]⟩,74,cl,#[aj 2,ao 1],none⟩ λK a=> ?_;go_simp;refine(z.o X J.o).mono ?_;rintro e r ⟨fv,rfl,c,d⟩
 go_wp2_with fail
 have n:=acP hHeld d;refine qK a (n) λhHeld=> ?_;clear a K;have f:Hd (Ints r r.heap.size lv (kC t)):=hI (Row.mono (D.o.below d lR) d.size);have L:=hI c;have o:=hI (ag J.o d lR);have g:=hI (U.o.below o.o lR);clear c d n;refine qR 4 ⟨some 5,.assign (.tmp 9),74,cl,#[aj 1,ao 3,al 0,al 1,{ on:=2,ground:=Ground.textOnly Go.Departure.lateStores},{ on:=3,ground:=Ground.textOnly Go.Departure.lateStoresUnsure}],none⟩ λK a=> ?_;go_simp;refine qK a (hHeld) λhHeld=> ?_;clear a K;refine qR 5 ⟨some 6,.assign (.tmp 11),74,cl,#[aj 3,ao 4,al 0,al 1,al 2,al 3,al 4],none⟩ λK a=> ?_;go_simp;refine qK a (hHeld) λhHeld=> ?_;clear a K;refine wpAnyH_done (by kernel_rfl) ?_ _;clear hHeld;obtain⟨la,lc,rfl⟩:=f.o.slice;have E:=(f.o:Row r _ _ _ _ _);obtain⟨_,Y,lc',hle,_,_,p⟩:=E;cases hle;have M:=hI p;clear p;have NO:(kC t).length<=400:=Q.o.1;obtain⟨l,m⟩:=xE (kC t);rw[<-m]at f M NO |-;have N:=hI m;clear m;go_wp2
 go_loop [7] (λi=>∃k:Nat,k<=l.length/\i=.int .i64 k/\∀j,j<k->Bk l ps (cC t) (cN l j)=true) (λi=>l.length-(intOf i).toNat)
 case atStart=>exact⟨0,aw _,rfl,λj O=>ay O (ax _)⟩
 case round=>
  obtain⟨k,A,rfl,a⟩:=hrel;have P:=hI a;clear a;by_cases bO:k<l.length
  ·obtain⟨b,off,rfl,_,c⟩:=M.o (by omega);have c0:r.cell? ⟨b,off+k,none⟩=some (.int .i64 (cN l k)):=c k (by omega);have d:=G5 l (cN l k);obtain⟨q,a⟩:=xE (kz l (cN l k));have s:=hI a.symm;have Zd:q<=400:=by omega
   have u:Hd (Bk l ps (cC t) (cN l k)=(!decide (1<q)&& !mH ps (cN l k)&& !mH (cC t) (cN l k))):=hI (by rw[a];rfl);have F:Hd (Bk l ps (cC t) (cN l k)=false->pN t ps=false):=hI λh=>by unfold pN;rw[<-N.o];exact aaf bO h
   clear c d a;by_cases m:1<q
   ·have e1:decide ((1:Int)<(q:Int))=true:=by simp;omega
    have c:=hI (F.o (by rw[u.o,aI m];rfl));clear m
    go_wp2_with (first|(go_at_call 206;refine(qX _ _ _ _ f.o).mono ?_;rintro e w' ⟨rfl,a⟩;rw[a,s.o];clear a w')|fail)
    go_ret;exact⟨by rw[c.o];rfl,o.o⟩
   ·have e1:decide ((1:Int)<(q:Int))=false:=by simp;omega
    cases d:mH ps (cN l k)
    case true=>
     have c:=hI (F.o (by rw[u.o,d];simp));have p:=hI d;clear m d
     go_wp2_with (first|(go_at_call 206;refine(qX _ _ _ _ f.o).mono ?_;rintro e w' ⟨rfl,a⟩;rw[a,s.o];clear a w')|(go_at_call 207;refine(oZ ps _ _ _ g.o).mono ?_;rintro e w' ⟨rfl,a⟩;rw[a,p.o];clear a w'))
     go_ret;exact⟨by rw[c.o];rfl,o.o⟩
    case false=>
     cases n:mH (cC t) (cN l k)
     case true=>
      obtain⟨c,p,G⟩:=h_3 (F.o (by rw[u.o,n];simp)) d n;clear m d n
      go_wp2_with fail
      refine(qX _ _ _ _ f.o).mono ?_;rintro e w' ⟨rfl,a⟩;rw[a,s.o];clear a w'
      go_wp2_with fail
      refine(oZ ps _ _ _ g.o).mono ?_;rintro e w' ⟨rfl,a⟩;rw[a,p.o];clear a w'
      go_wp2_with fail
      refine(oZ (cC t) _ _ _ L.o).mono ?_;rintro e w' ⟨rfl,a⟩;rw[a,G.o];clear a w';go_wp2;go_ret;exact⟨by rw[c.o];rfl,o.o⟩
     case false=>
      obtain⟨c,p,G⟩:=h_3 (show Bk l ps (cC t) (cN l k)=true by rw[u.o,aB m,d,n];rfl) d n;clear m d n
      go_wp2_with fail
      refine(qX _ _ _ _ f.o).mono ?_;rintro e w' ⟨rfl,a⟩;rw[a,s.o];clear a w'
      go_wp2_with fail
      refine(oZ ps _ _ _ g.o).mono ?_;rintro e w' ⟨rfl,a⟩;rw[a,p.o];clear a w'
      go_wp2_with fail
      refine(oZ (cC t) _ _ _ L.o).mono ?_;rintro e w' ⟨rfl,a⟩;rw[a,G.o];clear a w';go_wp2
      go_round
      case rel=>exact⟨k+1,by omega,by go_num,λj O=>if h:j=k then h ▸ c.o else P.o j (by omega)⟩
      case measure=>simp[intOf];omega
  ·have a:k=l.length:=by omega
   subst a;have c:Hd (pN t ps=true):=hI (by unfold pN;rw[<-N.o];exact Vi P.o);go_wp2;go_ret;exact⟨by rw[c.o];rfl,o.o⟩
end
end Go.Proofs.YtnicceekibancaaGreat
