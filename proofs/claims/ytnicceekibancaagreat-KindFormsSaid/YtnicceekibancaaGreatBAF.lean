/- Lemmas: TeJ TeK TeL TeM TeN TeO TeP TeQ TeR TeS Inf Lat Stp Trl AccA Hoq ChA ChB ChC. -/
import Derived.Test.YtnicceekibancaaGreatBZ
import Derived.Test.YtnicceekibancaaGreatBAE
import Derived.Deep.Cut
import Derived.Test.YtnicceekibancaaGreatBAC
import Derived.Test.YtnicceekibancaaGreatBAA
import Derived.Test.YtnicceekibancaaGreatBAD
import Derived.Test.YtnicceekibancaaGreatBAB
set_option linter.all false
set_option maxRecDepth 100000
set_option maxHeartbeats 8000000
namespace Go.Proofs.YtnicceekibancaaGreat
variable{B a b c m:Nat}{S S':Ck}{Z:Nat->Prop}{f n v:Int}{g:Gr}{l:List Nat}{s:Sg}{u:Unit}{w w':World}
section
open Go Go.Maps Go.RowKit
attribute [local go_sem] aT cW df
theorem vt:∀{l m:List Int},l.Nodup->(∀x∈l,x∈m)->l.length<=m.length
 |[],_,_,_=>aw _
 |x::l,m,h,a=>by
  have h:=List.nodup_cons.1 h;have b:=a x (by simp);have c:=vt (l:=l) (m:=m.erase x) h.2 λy hy=>(List.mem_erase_of_ne (show y≠x from λe=>h.1 (by rw[<-e];exact hy))).2 (a y (by simp[hy]));have d:=List.length_erase_of_mem b;have f:=List.length_pos_of_mem b;rw[aD];omega
def tV(s:Sg)(t:Nd):List Int:=if fA s&&dq s t then cC t else[]
def vu(s:Sg)(t:Nd):Int:=if fA s&&dq s t then 0 else 2
theorem Bx(s:Sg)(t:Nd)(sv v:Value)(w:World)(B:Nat)(hs:ku w B sv s)(hv:cV w B v t)(hB:B<=w.heap.size)(hz:t.size<=1000000):
 Calls Tryz.prog 160 #[sv,v] w λe w'=>∃lv,e=.returned (.tuple #[lv,.int .i64 (vu s t)])/\w'.ownsRow w.heap.size 3 1 lv (tV s t).length (cE (tV s t))/\Below w.heap.size w w':=by
 have HS:=hI hs;have HV:=hI hv;obtain⟨cv,fv,rfl,hc,n⟩:=hs;have kH:=hc.small;have su:=n.small;obtain⟨L,cc,rfl⟩:=hc.slice;obtain⟨N,O,rfl⟩:=n.slice;obtain⟨kv,rfl,l⟩:=hv;have fK:=l.small;obtain⟨ka,kc,rfl⟩:=l.slice;obtain⟨F,g⟩:=xE (((w.alloc (.cells #[.slice L s.cons.length cc,.slice N s.bj.length O] 39)).alloc (.cells #[.int .i64 t.a,.int .i64 t.n,.slice ka t.k.len kc] 54)).alloc (.cells #[.int .i64 t.a,.int .i64 t.n,.slice ka t.k.len kc] 54));have f:=Below.F0 w (.cells #[.slice L s.cons.length cc,.slice N s.bj.length O] 39) (.cells #[.int .i64 t.a,.int .i64 t.n,.slice ka t.k.len kc] 54) (.cells #[.int .i64 t.a,.int .i64 t.n,.slice ka t.k.len kc] 54);have k:=(jf w (.cells #[.slice L s.cons.length cc,.slice N s.bj.length O] 39) (.cells #[.int .i64 t.a,.int .i64 t.n,.slice ka t.k.len kc] 54) (.cells #[.int .i64 t.a,.int .i64 t.n,.slice ka t.k.len kc] 54)).2;rw[<-g]at f k;have p:dr F F.heap.size (.slice (some ⟨w.heap.size+2,0,none⟩) 1 1) t.one:=Ow k.2 (by rw[g];simp) ((l.below f hB).mono (ai hB f.size));have m:=hI (yC s t.one _ _ F F.heap.size ((HS.o.below f hB).mono (ai hB f.size)) p lR (λi hi=>by
  obtain rfl:i=0:=by have:t.one.len=1:=rfl;omega
  exact hz))
 have r:(fA s&&t.one.list.all (dq s))=(fA s&&dq s t):=by
  exact an_
 rw[r]at m;obtain⟨fT,Uk,HB,WD⟩:=h_4 f k.1 hB g;rw[g]at m;clear hc n l f k p r g;cases j:(fA s&&dq s t)with
 |false=>
  have u:tV s t=[]:=by unfold tV;rw[j];rfl
  have z:vu s t=2:=by unfold vu;rw[j];rfl
  rw[u,z];rw[j]at m;clear j u z
  go_enter Tryz.func160,Tryz.ntmps160
  go_wp2_with fail
  refine m.o.mono ?_;rintro e w2 ⟨rfl,G⟩;rw[<-WD.o]at G;have g:=hI (ag fT.o G lR);clear G;go_wp2;refine bodyPost_ret (v:=.tuple #[.slice none 0 0,.int .i64 2]) (by simp[results,Tryz.results160,go_sem]) rfl ?_;exact⟨_,rfl,aZ _ _ _ _,g.o⟩
 |true=>
  have u:tV s t=cC t:=by unfold tV;rw[j];rfl
  have z:vu s t=0:=by unfold vu;rw[j];rfl
  rw[u,z];rw[j]at m;clear j u z
  go_enter Tryz.func160,Tryz.ntmps160
  go_wp2_with fail
  refine m.o.mono ?_;rintro e w2 ⟨rfl,G⟩;rw[<-WD.o]at G;have g:=cY G Uk.o;have x0:=cZ g;have x1:=eY g;have x2:=fu g;have zx:=af x0;have l:=ag fT.o G lR;have iK:=hI (OD t _ w2 B (HV.o.below l HB.o) (ai HB.o l.size));have ir:=hI l;clear G l g
  go_wp2_with fail
  refine iK.o.mono ?_;rintro e f ⟨mb,rfl,l,J,U⟩;obtain⟨M,K,n,V,p⟩:=l.list;obtain⟨o5,A,g⟩:=um.start (P:=Tryz.prog) (T:=250) Tryz.underlying250 K n;have C:=ag ir.o J lR;have D:=ag C (Below.cA f o5) lR;obtain⟨Q,R,jP⟩:=h_3 g p D;have k:Hd (w.heap.size<=mb/\mb<f.heap.size/\w.heap.size<=f.heap.size):=hI ⟨by have:=ir.o.size;omega,l.lt,C.size⟩;have H:(M.map (·.1)).length<=1000000:=by
   have E:=Cg (t:=t) n p;have I:=List.length_mergeSort (le:=λx y:Int=>decide (x<=y)) (M.map (·.1));rw[E]at I;have:=iL t;omega
  have S:=hI H;obtain⟨i0,hi,zW,sZ,xw⟩:=info_parts Tryz.BZ;clear l J U K V C D H g n p;go_wp2;clear A
  go_loopw [6,7] (λlv _ g=>∃done:List Int,um g mb f.heap.size M done/\g.ownsRow (f.heap.size+1) 3 1 lv done.length (cE done)/\Below w.heap.size w g/\done.Nodup/\∀y∈done,y∈M.map (·.1)) (λ_ _ g=>g.rangeLeft mb f.heap.size)
  case atStart=>exact⟨[],Q.o,aZ _ _ _ _,jP.o,List.nodup_nil,λy hy=>by cases hy⟩
  case round=>
   obtain⟨done,n,p,A,C,D⟩:=hrel;obtain⟨Uj,U,V⟩:=h_3 D C A;rcases n.next (P:=Tryz.prog) 0 with⟨r,Af⟩|⟨key,ad_,H,W,X,Af,Y,Z,hz7,E_,aea⟩
   ·have g:done.mergeSort (λx y=>decide (x<=y))=cC t:=Cg C λx=>by
     rw[<-R.o x];constructor
     ·exact D x
     ·intro l;obtain⟨y,hy,rfl⟩:=aN.1 l;exact r y hy
    have RA:done.length=(cC t).length:=by rw[<-g,List.length_mergeSort]
    have l:done.length<=1000000:=by have:=iL t;omega
    obtain⟨J,jY,K⟩:=h_3 (SI p l (by have:=n.ne.2.2;omega)) g RA;obtain⟨la,lc,rfl⟩:=cr p;clear n p A C D r g RA l
    go_wp2_with fail
    refine J.o.mono ?_;rintro e w6 ⟨rfl,g,yX⟩;rw[jY.o]at g;have l:=hI g;have HB6:=hI (V.o.trans (yX.mono (by have:=k.o;omega)));rw[K.o]at l |-;clear g yX;go_wp2;refine bodyPost_ret (v:=.tuple #[.slice la (cC t).length lc,.int .i64 0]) (by simp[results,Tryz.results160,go_sem]) rfl ?_;exact⟨_,rfl,UU l.o (by have:=k.o;omega),HB6.o⟩
   ·have eC:=n.ne;have J:∃a b c d,wr.heap[f.heap.size]? =some (.mapIter a b c d):=by obtain⟨es,c,since,seen,c0,_,_,_,j,_⟩:=n;exact⟨_,_,_,_,j⟩
    have l:=nD p (w':=H) λg c hc=>(Z.block g (gE hc).1 (λe=>by
     cases e;obtain⟨_,_,_,_,h⟩:=J;rw[h]at hc;cases hc)).trans hc
    have K:=A.grown Z A.size (λq hq=>by cases hq;have:=k.o;omega);have hlen:done.length<1000000:=by
     have E:(done++[key]).Nodup:=List.nodup_append.2 ⟨C,by simp,λa ha b G=>by rw[aJ.1 G];exact λe=>X (e ▸ ha)⟩;have I:∀y∈done++[key],y∈M.map (·.1):=λy hy=>by
      rcases aQ.1 hy with hy|hy
      ·exact D y hy
      ·rw[aJ.1 hy];exact aN.2 ⟨_,W,rfl⟩
     have g:=vt E I;rw[az,aY]at g;have:=S.o;omega
    obtain⟨E,yV,HR7,dL,OC,cg⟩:=h_6 l K Y E_ W X;have g:Hd (f.heap.size+1<=H.heap.size):=hI (by have:=Y.ne.2.2;omega);obtain⟨la,lc,rfl⟩:=cr p;clear n p A C D W X Y Z hz7 E_ eC J l K
    go_wp2_with (at_builtin;refine wpList_append_own_at _ rfl _ _ 74 rfl (f.heap.size+1) 3 i0 (.int .i64 0) 1 8 Tryz.underlying74 hi zW sZ xw rfl (by decide) _ _ _ rfl (E.o.alloc _) ⟨H.heap.size,0,none⟩ 1 1 [.int .i64 key] rfl rfl ?c1 ?c2 ?c3 ?c4 ?c5 ?_)
    case c1=>exact zI (a_ _ _)
    case c2=>exact one_one rfl
    case c3=>unfold maxLen;omega
    case c4=>omega
    case c5=>have:=g.o;simp;omega
    intro v' w8 eM I _ mF;have l:=Below.cA H (.cells #[.int .i64 key] 3);have J:=iI (E.o.alloc (.cells #[.int .i64 key] 3));have kM:=(ag yV.o l lR).grown I (ag yV.o l lR).size (λq hq=>by have:=(J q hq).1;have:=k.o;omega);obtain⟨WJ,WK⟩:=HR7.o.same (w':=w8) (λo ho=>(I.block mb (by have:=k.o;have:=g.o;have:=l.size;omega) (λe=>by have:=(J mb e.symm).1;have:=k.o;omega)).trans ((l.block mb (by have:=k.o;have:=g.o;omega)).trans ho))
     (λo ho=>(I.block _ (by have:=g.o;have:=l.size;omega) (λe=>by have:=(J _ e.symm).1;omega)).trans ((l.block _ (by have:=g.o;omega)).trans ho))
    rw[show cE done++[.int .i64 key]=cE (done++[key])by rw[<-eZ];rfl]at eM;have K:=hI (show _/\_/\_/\_ from⟨WJ,eM,kM,show w8.rangeLeft mb f.heap.size<wr.rangeLeft mb f.heap.size by rw[WK];exact dL.o⟩);clear eM I mF l J kM WJ WK;go_wp2
    go_roundw
    case rel=>exact⟨done++[key],K.o.1,by rw[az];exact K.o.2.1,K.o.2.2.1,List.nodup_append.2 ⟨U.o,by simp,λa ha b G=>by rw[aJ.1 G];exact λe=>cg.o (e ▸ ha)⟩,λy hy=>by
     rcases aQ.1 hy with hy|hy
     ·exact Uj.o y hy
     ·rw[aJ.1 hy];exact aN.2 ⟨_,OC.o,rfl⟩⟩
    case measure=>exact K.o.2.2.2
end
section
open Go Go.RowKit
theorem Fb:∀(l:List Nd) (met:List Int),p9 met l=true↔(∀x∈l,x.a=1\/x.a=3)/\(gF l).Nodup/\∀y∈gF l,y ∉ met
 |[],met=>by simp[p9,gF]
 |x::l,met=>by
  have g:=Fb l (if x.a=1 then met++[x.n]else met);unfold p9;rw[ak,ak,g];by_cases b:x.a=1
  ·have hm:gF (x::l)=x.n::gF l:=by unfold gF;rw[bp];simp[b]
   rw[aq b,hm,List.nodup_cons];simp only[b,beq_self_eq_true,Bool.true_or,aU,Bool.not_eq_true',List.forall_mem_cons,aQ,aJ];constructor
   ·rintro⟨⟨_,c⟩,d,f,a⟩;exact⟨⟨.inl trivial,d⟩,⟨λh=>a _ h (.inr rfl),f⟩,by simpa using c,λy hy h=>a y hy (.inl h)⟩
   ·rintro⟨⟨_,d⟩,⟨i,f⟩,c,a⟩;exact⟨⟨trivial,by simpa using c⟩,d,f,λy hy h=>h.elim (a y hy) λe=>i (e ▸ hy)⟩
  ·have hm:gF (x::l)=gF l:=by unfold gF;rw[bp];simp[b]
   rw[ah b,hm];simp only[List.forall_mem_cons];have i:(x.a==1)=false:=by simpa using b
   rw[i];simp only[Bool.false_or,Bool.false_and,Bool.not_false,and_true,b_];constructor
   ·rintro⟨c,d,f,a⟩;exact⟨⟨.inr c,d⟩,f,a⟩
   ·rintro⟨⟨c,d⟩,f,a⟩;exact⟨c.resolve_left b,d,f,a⟩
theorem th:∀{F:Fo},cK s F=true->F.plain
 | .nil,_=>trivial
 | .cons a n k r,h=>by
  have h:(cS s a n k.len&&cK s k&&cK s r)=true:=h;rw[ak,ak]at h;refine⟨λc=> ?_,th h.1.2,th h.2⟩;have b:=h.1.1;unfold cS at b;rw[aq c,ak]at b;cases k with
  |nil=>rfl
  |cons _ _ _ _=>simp[Fo.len]at b
theorem Fc{t:Nd}(h:dq s t=true):(t.a=1->t.k=.nil)/\t.k.plain:=by
 unfold dq iT at h;rw[ak,ak]at h;refine⟨λb=> ?_,th h.2.2⟩;have a:=h.2.1;unfold cS at a;rw[aq b,ak]at a;cases c:t.k with
 |nil=>rfl
 |cons _ _ _ _=>rw[c]at a;simp[Fo.len]at a
theorem Ch(l m:List Nd):gF (l++m)=gF l++gF m:=by unfold gF;rw[List.filter_append,bA]
theorem wq(x:Nd)(l:List Nd):gF (x::l)=if x.a=1 then x.n::gF l else gF l:=by
 unfold gF;rw[bp];by_cases h:x.a=1<;>simp[h]
theorem By:∀(F:Fo) (bs:List Int),F.plain->((nH F bs).2=true↔(gF (iU F)).Nodup/\∀y∈gF (iU F),y ∉ bs)/\((nH F bs).2=true->∀x,x∈(nH F bs).1↔x∈bs\/x∈gF (iU F))
 | .nil,bs,_=>by simp[nH,iU,gF]
 | .cons a n k r,bs,⟨m,o,p⟩=>by
  have d:((iD ⟨a,n,k⟩ bs).2=true↔(gF (dM ⟨a,n,k⟩)).Nodup/\∀y∈gF (dM ⟨a,n,k⟩),y ∉ bs)/\((iD ⟨a,n,k⟩ bs).2=true->∀x,x∈(iD ⟨a,n,k⟩ bs).1↔x∈bs\/x∈gF (dM ⟨a,n,k⟩)):=by
   unfold iD dM;rw[wq];by_cases b:a=1
   ·rw[aq b,aq b,show iU k=[]by rw[m b];rfl];refine⟨?_,λ_ x=> ?_⟩
    ·simp[gF,mH]
    ·rw[Ag];simp[gF,or_comm]
   ·rw[ah b,ah b];exact By k bs o
  have j:=By r (iD ⟨a,n,k⟩ bs).1 p;have hp:iU (.cons a n k r)=dM ⟨a,n,k⟩++iU r:=rfl;rw[Bi,hp,Ch,List.nodup_append];cases b:(iD ⟨a,n,k⟩ bs).2 with
  |false=>
   simp only[bF,if_false,b,false_iff,false_implies,and_true];rintro⟨⟨f,_,_⟩,g⟩;have:=d.1.2 ⟨f,λy hy=>g y (aQ.2 (.inl hy))⟩;rw[b]at this;cases this
  |true=>
   simp only[if_true];have c:=d.2 b;obtain⟨f,g⟩:=d.1.1 b;constructor
   ·rw[j.1];constructor
    ·rintro⟨i,l⟩;refine⟨⟨f,i,λx q y hy e=>l y hy ((c y).2 (.inr (e ▸ q)))⟩,λy hy=> ?_⟩;rcases aQ.1 hy with hy|hy
     ·exact g y hy
     ·exact λhc=>l y hy ((c y).2 (.inl hc))
    ·rintro⟨⟨_,i,l⟩,q⟩;refine⟨i,λy hy hc=> ?_⟩;rcases(c y).1 hc with hc|hc
     ·exact q y (aQ.2 (.inr hy)) hc
     ·exact l y hc y hy rfl
   ·intro l x;rw[j.2 l x,c x,aQ,or_assoc]
theorem SK(t:Nd):ew iG t=true↔∀x∈dM t,x.a=1\/x.a=3:=by
 rw[pW,aK];unfold iG;simp
theorem WO{t:Nd}(h:dq s t=true):p9 [] (dM t)=Er t:=by
 obtain⟨d,e⟩:=Fc h;rw[aP,Fb];unfold Er;rw[ak,SK];have f:(iD t []).2=true↔(gF (dM t)).Nodup:=by
  unfold iD dM;rw[wq];by_cases c:t.a=1
  ·rw[aq c,aq c,show iU t.k=[]by rw[d c];rfl];simp[gF,mH]
  ·rw[ah c,ah c,(By t.k [] e).1];simp
 rw[f];constructor
 ·rintro⟨a,b,_⟩;exact⟨b,a⟩
 ·rintro⟨a,b⟩;exact⟨b,a,λy _=>by simp⟩
theorem Jv:∀(F:Fo) (n:Int) (i:Nat) (x:Int),F.plain->(∀y∈iU F,y.a=1\/y.a=3)->(wW false n i F x=true↔x∈gF (iU F))
 | .nil,n,i,x,_,_=>by simp[wW,iU,gF]
 | .cons a m k r,n,i,x,⟨d,f,g⟩,c=>by
  have e:wW false n i (.cons a m k r) x=(((if a=1 then x==m else wW (a==8) m 0 k x)&& !(false&&i==1&&x==n))||wW false n (i+1) r x):=rfl;have hp:iU (.cons a m k r)=dM ⟨a,m,k⟩++iU r:=rfl;rw[hp]at c;have j:=Jv r n (i+1) x g λy hy=>c y (aQ.2 (.inr hy));have l:((if a=1 then x==m else wW (a==8) m 0 k x)=true)↔x∈gF (dM ⟨a,m,k⟩):=by
   unfold dM;rw[wq];by_cases b:a=1
   ·rw[aq b,aq b,show iU k=[]by rw[d b];rfl];simp[gF]
   ·have o:(a==8)=false:=by
     have:=c ⟨a,m,k⟩ (aQ.2 (.inl (aO ..)));rw[beq_eq_false_iff_ne];rcases this with h|h<;>(simp only at h;omega)
    rw[ah b,ah b,o];exact Jv k m 0 x f λy hy=>c y (aQ.2 (.inl (aS _ hy)))
  rw[e,hp,Ch,aQ,b7,j];simp only[Bool.false_and,Bool.not_false,Bool.and_true,l]
theorem aaH{t:Nd}(h:dq s t=true)(b:∀y∈dM t,y.a=1\/y.a=3)(x:Int):Dq t x=true↔x∈gF (dM t):=by
 obtain⟨c,d⟩:=Fc h;unfold Dq dM;rw[wq];by_cases a:t.a=1
 ·rw[aq a,aq a,show iU t.k=[]by rw[c a];rfl];simp[gF]
 ·have e:(t.a==8)=false:=by
   have:=b t (by unfold dM;simp);rw[beq_eq_false_iff_ne];omega
  rw[ah a,ah a,e];exact Jv t.k t.n 0 x d λy hy=>b y (by unfold dM;simp[hy])
theorem SM{t:Nd}(h:dq s t=true)(e:∀y∈dM t,y.a=1\/y.a=3):ew (f_ v) t=true↔∀x∈cC t,x<v:=by
 rw[pW,aK];have f:∀x,x∈cC t↔x∈gF (dM t):=λx=>by rw[(lC t).2 x,aaH h e]
 unfold f_;constructor
 ·intro a x b;rw[f]at b;unfold gF at b;obtain⟨y,hy,rfl⟩:=aN.1 b;obtain⟨c,d⟩:=List.mem_filter.1 hy;have:=a y c;rw[d]at this;simpa using this
 ·intro a y hy;rcases e y hy with b|c
  ·have:y.n∈cC t:=by
    rw[f];unfold gF;exact aN.2 ⟨y,List.mem_filter.2 ⟨hy,by simpa using b⟩,rfl⟩
   have:=a _ this;simp[this]
  ·simp[c]
def iW(s:Sg)(v:Int):List Int->Fo->Option (List Int)
 |met,.nil=>some met
 |met,.cons a n k r=>if(fA s&&dq s ⟨a,n,k⟩)&&p9 [] (dM ⟨a,n,k⟩)then(if(cC ⟨a,n,k⟩).all (λx=> !met.contains x&&decide (x<v))then iW s v (met++cC ⟨a,n,k⟩) r else none)else none
def vw:Fo->List Int
 | .nil=>[]
 | .cons a n k r=>cC ⟨a,n,k⟩++vw r
theorem WQ{t:Nd}:kU s v t=true↔(dq s t&&p9 [] (dM t))=true/\∀x∈cC t,x<v:=by
 unfold kU;cases h:dq s t with
 |false=>simp
 |true=>
  rw[<-WO h];cases hp:p9 [] (dM t)with
  |false=>simp
  |true=>
   have a:=((Fb _ _).1 hp).1;simp only[aU,true_and,SM h a,Bool.and_self]
theorem tk(i:fA s=true):∀(F:Fo) (met d:List Int),iW s v met F=some d↔(pO (kU s v) F=true/\(vw F).Nodup/\(∀x∈vw F,x ∉ met))/\d=met++vw F
 | .nil,met,d=>by simp[iW,pO,vw,eq_comm]
 | .cons a n k r,met,d=>by
  unfold iW pO vw;have l:((kU s v ⟨a,n,k⟩&&pO (kU s v) r)=true)↔((dq s ⟨a,n,k⟩&&p9 [] (dM ⟨a,n,k⟩))=true/\∀x∈cC ⟨a,n,k⟩,x<v)/\pO (kU s v) r=true:=by rw[ak,WQ]
  rw[l];simp only[i,aU];have m:(cC ⟨a,n,k⟩).Nodup:=(lC ⟨a,n,k⟩).1.imp λh e=>by omega
  by_cases f:(dq s ⟨a,n,k⟩&&p9 [] (dM ⟨a,n,k⟩))=true
  ·rw[aq f];by_cases c:((cC ⟨a,n,k⟩).all λx=> !met.contains x&&decide (x<v))=true
   ·rw[aq c,tk i r];rw[aK]at c;have j:∀x∈cC ⟨a,n,k⟩,x ∉ met/\x<v:=λx b=>by have:=c x b;simpa using this
    rw[List.nodup_append,aG];constructor
    ·rintro⟨⟨g1,g2,g3⟩,g4⟩;exact⟨⟨⟨⟨f,λx b=>(j x b).2⟩,g1⟩,⟨m,g2,λx b y hy e=>g3 y hy (aQ.2 (.inr (e ▸ b)))⟩,λx b=>(aQ.1 b).elim (λb=>(j x b).1) λb hc=>g3 x b (aQ.2 (.inl hc))⟩,g4⟩
    ·rintro⟨⟨⟨⟨_,_⟩,g1⟩,⟨_,g2,g5⟩,g6⟩,g4⟩;exact⟨⟨g1,g2,λx b hc=>(aQ.1 hc).elim (λhc=>g6 x (aQ.2 (.inr b)) hc) λhc=>g5 x hc x b rfl⟩,g4⟩
   ·rw[ah c];refine⟨λh=>(by cases h),?_⟩;rintro⟨⟨⟨⟨_,g0⟩,_⟩,_,g6⟩,_⟩;refine ay ?_ c;rw[aK];intro x b;have:=g6 x (aQ.2 (.inl b));have:=g0 x b;simp[*]
  ·rw[ah f];refine⟨λh=>(by cases h),?_⟩;rintro⟨⟨⟨⟨g,_⟩,_⟩,_⟩,_⟩;exact ay g f
theorem LU:∀F:Fo,ym F F.len=(vw F).length
 | .nil=>rfl
 | .cons a n k r=>by
  show(cC ⟨a,n,k⟩).length+ym r r.len=_;rw[LU r,show vw (.cons a n k r)=cC ⟨a,n,k⟩++vw r from rfl,az]
theorem LV:∀(F:Fo) (x:Int),x∈vw F↔wW false 0 0 F x=true:=by
 have key:∀(F:Fo) (i:Nat) (x:Int),x∈vw F↔wW false 0 i F x=true:=by
  intro F
  induction F with
  |nil=>intro i x;simp[vw,wW]
  |cons a n k r _ b=>
   intro i x;have e:wW false 0 i (.cons a n k r) x=((Dq ⟨a,n,k⟩ x&& !(false&&i==1&&x==0))||wW false 0 (i+1) r x):=rfl;unfold vw;rw[aQ,(lC ⟨a,n,k⟩).2 x,b (i+1) x,e];simp
 exact λF x=>key F 0 x
theorem Ci:∀{L U:List Int},U.Nodup->(∀x∈U,x∈L)->L.length<=U.length->L.Nodup
 |[],_,_,_,_=>List.nodup_nil
 |x::L,U,b,d,e=>by
  by_cases f:x∈L
  ·have c:=vt (l:=U) (m:=L) b λy hy=>by
    rcases aE.1 (d y hy)with rfl|h
    ·exact f
    ·exact h
   rw[aD]at e;omega
  ·refine List.nodup_cons.2 ⟨f,Ci (U:=U.erase x) (b.erase x) (λy hy=> ?_) ?_⟩
   ·have c:=List.mem_of_mem_erase hy;rcases aE.1 (d y c)with rfl|h
    ·exact ay hy (List.Nodup.not_mem_erase b)
    ·exact h
   ·have:=List.length_erase (a:=x) (l:=U);rw[aD]at e
    split at this<;>omega
theorem aaI(F:Fo):Gd F=true↔(vw F).Nodup:=by
 unfold Gd;have hu:=lC ⟨0,0,F⟩;have b:(cC ⟨0,0,F⟩).Nodup:=hu.1.imp λh e=>by omega
 have hm:∀x,x∈cC ⟨0,0,F⟩↔x∈vw F:=λx=>by
  rw[hu.2 x,LV F x];show(if(0:Int)=1 then _ else wW ((0:Int)==8) 0 0 F x)=true↔_;rw[ah (by decide)];exact Iff.rfl
 rw[b_,LU];constructor
 ·intro h;exact Ci b (λx a=>(hm x).1 a) (by omega)
 ·intro h;have c:=vt h λx a=>(hm x).2 a;have d:=vt b λx a=>(hm x).1 a;omega
def k8(l:List Nd):List Int:=(l.filter λx=>x.a==8).map (·.n)
theorem Cj(l m:List Nd):k8 (l++m)=k8 l++k8 m:=by unfold k8;rw[List.filter_append,bA]
theorem wz(x:Nd)(l:List Nd):k8 (x::l)=(if x.a=8 then[x.n]else[])++k8 l:=by
 unfold k8;rw[bp];by_cases h:x.a=8<;>simp[h]
theorem Bz:∀F:Fo,u7 F=k8 (iU F)
 | .nil=>rfl
 | .cons a n k r=>by
  have hp:iU (.cons a n k r)=(⟨a,n,k⟩:Nd)::(iU k++iU r):=rfl;unfold u7;rw[hp,wz,Cj,Bz k,Bz r,aG]
theorem SN(t:Nd):kC t=k8 (dM t):=by unfold kC dM;rw[wz,Bz]
def yD(v:Int)(free:List Int):List Int->List Nd->Bool
 |_,[]=>true
 |met,x::l=>(if x.a=1 then decide (x.n<v)else if x.a=8 then decide (x.n<v)&& !met.contains x.n&& !free.contains x.n else true)&&yD v free (if x.a=8 then met++[x.n]else met) l
theorem LW(v:Int)(free:List Int):∀(l:List Nd) (met:List Int),yD v free met l=true↔(∀x∈l,f_ v x.a x.n x.k.len=true)/\(k8 l).Nodup/\∀y∈k8 l,y ∉ met/\y ∉ free
 |[],met=>by simp[yD,k8]
 |x::l,met=>by
  have d:=LW v free l (if x.a=8 then met++[x.n]else met);unfold yD;rw[ak,d,wz,List.forall_mem_cons];unfold f_;by_cases a:x.a=8
  ·rw[ah (show ¬x.a=1 by omega),aq a,aq a,aq a];simp only[a,List.singleton_append,List.nodup_cons,List.forall_mem_cons,ak,decide_eq_true_eq,Bool.not_eq_true',aQ,aJ];constructor
   ·rintro⟨⟨⟨b,a2⟩,a3⟩,a4,a5,c⟩;exact⟨⟨by simp[b],a4⟩,⟨λh=>(c _ h).1 (.inr rfl),a5⟩,⟨by simpa using a2,by simpa using a3⟩,λy hy=>⟨λh=>(c y hy).1 (.inl h),(c y hy).2⟩⟩
   ·rintro⟨⟨b,a4⟩,⟨f,a5⟩,⟨a2,a3⟩,c⟩;exact⟨⟨⟨by simpa using b,by simpa using a2⟩,by simpa using a3⟩,a4,a5,λy hy=>⟨λh=>h.elim (c y hy).1 λe=>f (e ▸ hy),(c y hy).2⟩⟩
  ·rw[ah a,ah a,ah a,bL];by_cases c:x.a=1
   ·rw[aq c];simp only[c,decide_eq_true_eq];constructor
    ·rintro⟨b,a2,a3⟩;exact⟨⟨by simp[b],a2⟩,a3⟩
    ·rintro⟨⟨b,a2⟩,a3⟩;exact⟨by simpa using b,a2,a3⟩
   ·rw[ah c];have b:(x.a==1)=false:=by simpa using c
    have f:(x.a==8)=false:=by simpa using a
    simp only[b,f,Bool.not_false,Bool.and_self,Bool.true_or,true_and]
theorem Cm:∀l:List Int,(∀x∈l,¬1<kz l x)↔l.Nodup
 |[]=>by simp
 |y::l=>by
  have c:=Cm l;have hc:∀x,kz (y::l) x=(if y=x then 1 else 0)+kz l x:=λx=>by
   unfold kz;rw[bp];by_cases h:y=x
   ·subst h;simp;omega
   ·rw[ah (by simpa using h),ah h];omega
  have d:∀x,x ∉ l->kz l x=0:=λx a=>by
   unfold kz;rw[List.length_eq_zero_iff,List.filter_eq_nil_iff];intro z b;simp;exact λe=>a (e ▸ b)
  have hp:∀x,x∈l->1<=kz l x:=λx a=>by
   unfold kz;exact List.length_pos_of_mem (List.mem_filter.2 ⟨a,by simp⟩)
  rw[List.nodup_cons,<-c];constructor
  ·intro h;refine⟨λhy=> ?_,λx a=> ?_⟩
   ·have b:=h y (by simp);rw[hc,aq rfl]at b;have:=hp y hy;omega
   ·have b:=h x (by simp[a]);rw[hc]at b;omega
  ·rintro⟨b,f⟩ x a;rw[hc];rcases aE.1 a with rfl|a
   ·rw[aq rfl,d _ b];omega
   ·have:=f x a;rw[ah (show ¬y=x from λe=>b (by rw[e];exact a))];omega
theorem SP(t:Nd)(ps:List Int):pN t ps=true↔(kC t).Nodup/\∀y∈kC t,y ∉ ps/\y ∉ cC t:=by
 unfold pN Bk;rw[aK,<-Cm];constructor
 ·intro h;refine⟨λx c=> ?_,λx c=> ?_⟩
  ·have:=h x c;simp at this;omega
  ·have:=h x c;simp[mH]at this;exact⟨this.1.2,this.2⟩
 ·rintro⟨d,e⟩ x c;have a:=d x c;have b:=e x c;simp[mH,b.1,b.2];omega
def oC(s:Sg)(r:oN):Bool:=
 fX r.fn 0 ((s.bj.length:Int)-1)&&(r.bT.len:Int)==(bS s.bj r.fn.toNat).args&&fX r.vars 0 20&&(fA s&&dq s r.rhs)&&
  match iW s r.vars [] r.bT with
  |none=>false
  |some met=>yD r.vars (cC r.rhs) met (dM r.rhs)
theorem Fe(h:fA s=true)(r:oN):oC s r=jO s r:=by
 unfold oC jO;rw[h,aU,Bool.and_assoc _ (pO (kU s r.vars) r.bT)]
 congr 1
 rw[aP];have hu:=lC ⟨0,0,r.bT⟩;have hm:∀x,x∈cC ⟨0,0,r.bT⟩↔x∈vw r.bT:=λx=>by
  rw[hu.2 x,LV r.bT x];show(if(0:Int)=1 then _ else wW ((0:Int)==8) 0 0 r.bT x)=true↔_;rw[ah (by decide)];exact Iff.rfl
 rw[ak,ak,ak,aaI,SP,pW,aK,SN];cases hp:iW s r.vars [] r.bT with
 |none=>
  refine⟨λh=>(by cases h),?_⟩;rintro⟨a,⟨b,_⟩,_⟩;have:=(tk (v:=r.vars) h r.bT [] ([]++vw r.bT)).2 ⟨⟨a,b,λx _=>by simp⟩,rfl⟩;rw[hp]at this;cases this
 |some met=>
  obtain⟨⟨a,b,_⟩,rfl⟩:=(tk h r.bT [] met).1 hp;simp only;rw[LW,bL];constructor
  ·rintro⟨c,a2,a3⟩;exact⟨a,⟨b,c⟩,a2,λy hy=>⟨λhc=>(a3 y hy).1 ((hm y).1 hc),(a3 y hy).2⟩⟩
  ·rintro⟨_,⟨_,c⟩,a2,a3⟩;exact⟨c,a2,λy hy=>⟨λhc=>(a3 y hy).1 ((hm y).2 hc),(a3 y hy).2⟩⟩
attribute [local go_sem] Oper.semAt_some aT cW df m7 wm
theorem Ff{mb o:Nat}{v:Value}(a:Fix (λq=>q=mb) w w')(hm:∃es c,w.heap[mb]? =some (.map es c))(hc:w.cell? ⟨b,o,none⟩=some v):w'.cell? ⟨b,o,none⟩=some v:=by
 have d:=af hc;have eC:b≠mb:=λe=>by
  obtain⟨es,c,h⟩:=hm;subst e;simp[World.cell?,h]at hc
 rw[World.cell?_of_block (w:=w) (a.block b d eC),hc]
theorem kE.isMap{W:World}{qm mb:Nat}{M:List Int}(h:kE W qm mb M):∃es c,W.heap[mb]? =some (.map es c):=by obtain⟨_,⟨es,c,h,_⟩,_⟩:=h.map;exact⟨es,c,h⟩
theorem Ints.fix{mb:Nat}{v:Value}{l:List Int}(h:Ints w B v l)(d:Fix (λq=>q=mb) w w')(hm:∃es c,w.heap[mb]? =some (.map es c)):Ints w' w'.heap.size v l:=by
 obtain⟨e,a,cap,f,g,j,k⟩:=h;refine⟨e,a,cap,f,g,j,λm=> ?_⟩;obtain⟨b,off,n,_,hc⟩:=k m;exact⟨b,off,n,af (Ff d hm (hc 0 (by omega))),λi hi=>Ff d hm (hc i hi)⟩
theorem LX{l:List Int}{i:Nat}(h:i<l.length):l.take (i+1)=l.take i++[cN l i]:=by
 rw[aV h];unfold cN;rw[ae h];rfl
theorem SQ(s:Sg)(r:oN)(sv rv:Value)(w:World)(B:Nat)(U:ku w B sv s)(hr:I1 w B rv r)(hB:B<=w.heap.size)(sZ:r.rhs.size<=1000000)(xw:∀i,i<r.bT.len->(r.bT.at i).size<=1000000)(Ng:r.bT.len<=1000000):
 aH Tryz.prog 148 #[sv,rv] w (.bool (oC s r)):=by
 have HS:=hI U;obtain⟨cv,fv,rfl,hc,X⟩:=U;have kH:=hc.small;have su:=X.small;obtain⟨ca,cc,rfl⟩:=hc.slice;obtain⟨fa,fc,rfl⟩:=X.slice;obtain⟨pv,kv,rfl,hp,K⟩:=hr;have qz:=hp.small;have fK:=K.small;obtain⟨pa,pc,rfl⟩:=hp.slice;obtain⟨ka,kc,rfl⟩:=K.slice;obtain⟨W3,J⟩:=xE (((w.alloc (.cells #[.slice ca s.cons.length cc,.slice fa s.bj.length fc] 39)).alloc (.cells #[.int .i64 r.fn,.slice pa r.bT.len pc,.int .i64 r.rhs.a,.int .i64 r.rhs.n,.slice ka r.rhs.k.len kc,.int .i64 r.vars] 139)).alloc (.cells #[.bool false] 4));obtain⟨A,qC⟩:=nH3 w (.cells #[.slice ca s.cons.length cc,.slice fa s.bj.length fc] 39) (.cells #[.int .i64 r.fn,.slice pa r.bT.len pc,.int .i64 r.rhs.a,.int .i64 r.rhs.n,.slice ka r.rhs.k.len kc,.int .i64 r.vars] 139) (.cells #[.bool false] 4);have a:W3.heap.size=w.heap.size+3:=by rw[J];simp
 rw[<-J]at A qC;obtain⟨L,G,g⟩:=qC;obtain⟨HP,HK,HF,l,fT,AM,N0,N1,N2,Qp,HZ2⟩:=h_11 hp K X hB A a L G g sZ xw;obtain⟨rb,T⟩:=xE (oC s r);rw[<-T];have J9:=hI T;have CT:= @run_makeMap Tryz.prog;unfold aH;refine callsIn_wide.1 (callsIn_of_wp_marks (n:=0) Tryz.func148 rfl trivial (wpIn_wide.2 ?_) rfl);simp only[Tryz.ntmps148,List.size_toArray,aD,List.length_nil,Nat.reduceAdd,Nat.reduceSub,Array.replicate_succ,Array.replicate_zero,List.push_toArray,List.append_toArray,bL,bJ]
 go_upto_region 1 with fail
 rw[<-J];have a0:=cZ L;have a1:=eY L;have r0:=cZ G;have r1:=eY G;have r2:=fu G;have r3:=xk G;have r4:=Za G;have r5:=cr5 G;have z0:=af a0;have z1:=af r0;have Kh:Hd (∀d os,aH Tryz.prog 159 #[.agg #[.slice ca s.cons.length cc,.slice fa s.bj.length fc],.agg #[.int .i64 r.rhs.a,.int .i64 r.rhs.n,.slice ka r.rhs.k.len kc]] (Go.Sort.grow (redrawn W3 d) os) (.int .i64 (if fA s&&dq s r.rhs then 0 else 2))):=hI λd os=>
  E4 s r.rhs _ _ _ B ((HS.o.below A hB).below (below_regrown W3 d os) (by omega)) ⟨_,rfl,(K.below A hB).below (below_regrown W3 d os) (by omega)⟩ (ai (by omega) (below_regrown W3 d os).size) sZ
 clear hc X hp K A L G g J T sZ xw Ng a;cases c1:fX r.fn 0 ((s.bj.length:Int)-1)with
 |false=>
  have Jn:Hd (∀W,aH Tryz.prog 176 #[.int .i64 r.fn,.int .i64 0,.int .i64 ((s.bj.length:Int)-1)] W (.bool false)):=hI λW=>by rw[<-c1];exact NX _ _ _ _
  have HV:Hd (rb=false):=hI (by rw[J9.o];unfold oC;rw[c1];rfl);clear c1;exact aot
 |true=>
  have Jn:Hd (∀W,aH Tryz.prog 176 #[.int .i64 r.fn,.int .i64 0,.int .i64 ((s.bj.length:Int)-1)] W (.bool true)):=hI λW=>by rw[<-c1];exact NX _ _ _ _
  obtain⟨fk,J8,aaq⟩:∃fk:Nat,r.fn=(fk:Int)/\fk<s.bj.length:=by
   have:0<=r.fn/\r.fn<=(s.bj.length:Int)-1:=by unfold fX at c1;simpa using c1
   exact⟨r.fn.toNat,by omega,by omega⟩
  obtain⟨nb,no,nc,he,qM,_,x1,_⟩:=fJ HF.o (fT.o.mono l.o) aaq;cases he;have znb:nb<W3.heap.size:=by have:=AM.o;omega
  obtain⟨ar,G⟩:=xE ((bS s.bj fk).args);rw[<-G]at x1;have OG:Hd (rb=((r.bT.len:Int)==ar&&fX r.vars 0 20&&(fA s&&dq s r.rhs)&&
   match iW s r.vars [] r.bT with
   |none=>false
   |some met=>yD r.vars (cC r.rhs) met (dM r.rhs))):=hI (by rw[J9.o];unfold oC;rw[c1,J8,bw,<-G];rfl)
  obtain⟨fn,J⟩:=xE r.fn;rw[<-J]at J8 r0 Jn |-;subst J8;have hfI:(fk:Int)<(s.bj.length:Int):=by omega
  clear c1 G J;by_cases c2:(r.bT.len:Int)=ar
  case neg=>
   have d2:((r.bT.len:Int) != ar)=true:=gy c2;have HV:Hd (rb=false):=hI (by rw[OG.o,show((r.bT.len:Int)==ar)=false by simpa using c2];rfl);clear c2;exact aot
  case pos=>
  have d2:((r.bT.len:Int) != ar)=false:=jX c2;cases c3:fX r.vars 0 20 with
  |false=>
   have F:Hd (∀W,aH Tryz.prog 176 #[.int .i64 r.vars,.int .i64 0,.int .i64 20] W (.bool false)):=hI λW=>by rw[<-c3];exact NX _ _ _ _
   have HV:Hd (rb=false):=hI (by rw[OG.o,c3];simp);clear c2 c3;refine aM (by kernel_rfl) (by kernel_rfl) ?_
   repeat go_big_quiet_step ((first|(with_reducible exact aH.quiet (Jn.o _))|(with_reducible exact aH.quiet (F.o _))))
   exact amw
  |true=>
  have F:Hd (∀W,aH Tryz.prog 176 #[.int .i64 r.vars,.int .i64 0,.int .i64 20] W (.bool true)):=hI λW=>by rw[<-c3];exact NX _ _ _ _
  cases c4:(fA s&&dq s r.rhs)with
  |false=>
   have HV:Hd (rb=false):=hI (by rw[OG.o,c4];simp);rw[c4]at Kh;simp only[bF,if_false]at Kh;clear c2 c3 c4;refine aM (by kernel_rfl) (by kernel_rfl) ?_
   repeat go_big_quiet_step ((first|(with_reducible exact aH.quiet (Jn.o _))|(with_reducible exact aH.quiet (F.o _))|(with_reducible exact aH.quiet (Kh.o _ _))))
   exact amw
  |true=>
   have HV:Hd (rb=match iW s r.vars [] r.bT with
    |none=>false
    |some met=>yD r.vars (cC r.rhs) met (dM r.rhs)):=hI (by rw[OG.o,c3,c4,show((r.bT.len:Int)==ar)=true by simpa using c2];rfl)
   rw[c4]at Kh;simp only[if_true]at Kh;have HC4:=hI c4;clear c2 c3 c4;refine aM (by kernel_rfl) (by kernel_rfl) ?_
   repeat go_big_quiet_step ((first|(with_reducible exact aH.quiet (Jn.o _))|(with_reducible exact aH.quiet (F.o _))|(with_reducible exact aH.quiet (Kh.o _ _))))
   refine wpQuiet_nil ?_;intro w2 bD;have a:=cY bD N0.o;have J:=cY bD N1.o;have p2:=cY bD N2.o;have t:=ag fT.o bD lR;have g:w.heap.size+3<=w2.heap.size:=by have:=bD.size;have:=AM.o;omega
   have q1:=eY J;have zq:=af q1;have zq2:w.heap.size<w2.heap.size:=by omega
   have iV:=hI g;have G:=Below.jE w2 (.map #[] 0) (.cells #[.map (some w2.heap.size)] 240);have Ht:kE ((w2.alloc (.map #[] 0)).alloc (.cells #[.map (some w2.heap.size)] 240)) (w2.heap.size+1) w2.heap.size []:=by
    refine⟨(cH w2 (.map #[] 0) (.cells #[.map (some w2.heap.size)] 240)).2,?_⟩;exact((eu.new w2 eT).below (Below.cA _ _) (by simp)).congr λk=>rfl
   have P:=hI (show _/\_/\_/\_/\_ from⟨ag t G lR,cY G a,cY G J,cY G p2,Ht⟩);clear x1 d2 hfI znb qM Jn F Kh a0 a1 r0 r1 r2 r3 r4 r5 z0 z1 bD a J p2 t g G Ht;go_wp2;clear q1;refine eR (λY=>Below w.heap.size w Y/\Y.heap[w.heap.size]? =some (.cells #[.slice ca s.cons.length cc,.slice (some ⟨nb,no,none⟩) s.bj.length fc] 39 (0,0))/\Y.heap[w.heap.size+1]? =some (.cells #[.int .i64 r.fn,.slice pa r.bT.len pc,.int .i64 r.rhs.a,.int .i64 r.rhs.n,.slice ka r.rhs.k.len kc,.int .i64 r.vars] 139 (0,0))/\Y.heap[w.heap.size+2]? =some (.cells #[.bool false] 4 (0,0))/\kE Y (w2.heap.size+1) w2.heap.size []) P.o ?_;rintro Y ⟨S,Z,f,L,T⟩;obtain⟨BY,Y0,Y1,Y2,MY⟩:=h_5 S Z f L T;have M:Hd (w.heap.size+2<Y.heap.size/\w2.heap.size+1<Y.heap.size):=hI ⟨(gE L).1,(gE T.box).1⟩;clear S Z f L T P
   go_loopw [55] (λi wr=>∃(j:Nat) (met:List Int),j<=r.bT.len/\i=.int .i64 j/\Fix (λq=>q=w2.heap.size) Y wr/\kE wr (w2.heap.size+1) w2.heap.size met/\iW s r.vars [] r.bT=iW s r.vars met (r.bT.drop j)) (λi _=>r.bT.len-(intOf i).toNat)
   case atStart=>exact⟨0,[],aw _,rfl,Fix.refl _ _,MY.o,by rw[Fo.drop_zero]⟩
   case round=>
    obtain⟨j,met,hj,rfl,rI,hmt,N⟩:=hrel;have g0:=(rI.block _ (by have:=M.o;omega) (by have:=iV.o;omega)).trans Y0.o;have g1:=(rI.block _ (by have:=M.o;omega) (by have:=iV.o;omega)).trans Y1.o;have g2:=(rI.block _ (by have:=M.o;omega) (by have:=iV.o;omega)).trans Y2.o;have t:Below w.heap.size w wr:=BY.o.trans (rI.toBelow (n:=w.heap.size) (by have:=M.o;omega) (λb e=>by have:=iV.o;omega));obtain⟨HFX,HMT,O,G0,G1,G2,ir⟩:=h_7 rI hmt N g0 g1 g2 t;by_cases bO:j<r.bT.len
    ·have dL:=hI bO;obtain⟨pb,po,aj_,pp,L,he,G,x0,x1,x2,J⟩:=dC HP.o (t.mono l.o) bO;cases he;have zpb:pb<wr.heap.size:=by have:=t.size;have:=l.o;omega
     have KZ:(j:Int)<(r.bT.len:Int):=by omega
     obtain⟨pt,SE⟩:∃pt:Nd,pt=r.bT.at j:=⟨_,rfl⟩;rw[<-SE]at x0 x1 x2 J;have HPT:=hI SE;have de:=Below.cA wr (.cells #[.int .i64 pt.a,.int .i64 pt.n,.slice pp pt.k.len L] 54);have T:cV (wr.alloc (.cells #[.int .i64 pt.a,.int .i64 pt.n,.slice pp pt.k.len L] 54)) B (.agg #[.int .i64 pt.a,.int .i64 pt.n,.slice pp pt.k.len L]) pt:=⟨_,rfl,J.below de (by have:=t.size;have:=l.o;omega)⟩;have HC:=hI (SD s pt _ _ _ B (HS.o.below (ag (t.mono l.o) de (by have:=l.o;omega)) lR) T (by have:=t.size;have:=l.o;have:=de.size;omega) (by rw[SE];exact HZ2.o j bO));have k0:=cZ g0;have k1:=eY g0;have zk:=af k0;obtain⟨HND,kV,Zu⟩:=h_3 T de (a_ wr (.cells #[.int .i64 pt.a,.int .i64 pt.n,.slice pp pt.k.len L] 54));clear rI hmt N g0 g1 g2 t J SE de T G
     go_wp2_with fail
     refine HC.o.mono ?_;rintro e w3 ⟨rfl,A⟩;have Z:=ag kV.o A lR;have pZ:=ag ir.o Z lR;have j0:=cY Z G0.o;have j1:=cY Z G1.o;have j2:=cY Z G2.o;have jx:=bQ Zu.o A (by simp);have WR:Hd (iW s r.vars met (r.bT.drop j)=if(fA s&&dq s pt)&&p9 [] (dM pt)then(if(cC pt).all (λx=> !met.contains x&&decide (x<r.vars))then iW s r.vars (met++cC pt) (r.bT.drop (j+1))else none)else none):=hI (by rw[Fo.mr dL.o,HPT.o];rfl);cases p_:((fA s&&dq s pt)&&p9 [] (dM pt))with
     |false=>
      have ER:Hd (rb=false):=hI (by rw[HV.o,O.o,WR.o,p_];rfl);cases dW:(fA s&&dq s pt)with
      |false=>
       simp only[bF,if_false];clear p_ dW WR HC Z A j0 j1 jx;exact aon
      |true=>
       have WS:p9 [] (dM pt)=false:=by rw[dW]at p_;simpa using p_
       rw[WS];simp only[if_true];clear p_ dW WR HC Z A j0 j1 jx WS;exact aon
     |true=>
      obtain⟨dW,WS⟩:=(ak _ _).mp p_;rw[dW,WS];simp only[if_true];have H:tV s pt=cC pt:=by unfold tV;rw[dW];rfl
      have I:vu s pt=0:=by unfold vu;rw[dW];rfl
      have Zv:=hI (Bx s pt _ _ w3 B (HS.o.below (pZ.mono l.o) lR) (HND.o.below A (by have:=ir.o.size;have:=l.o;have:=kV.o.size;omega)) (by have:=pZ.size;have:=l.o;omega) (by rw[HPT.o];exact HZ2.o j dL.o));rw[H,I]at Zv;have P:Hd (iW s r.vars met (r.bT.drop j)=(if(cC pt).all (λx=> !met.contains x&&decide (x<r.vars))then iW s r.vars (met++cC pt) (r.bT.drop (j+1))else none)):=hI (by rw[WR.o,aq p_]);have k0:=cZ j0;have k1:=eY j0;have T:=cZ jx;have a:=eY jx;have g:=fu jx;have zk:=af k0;have S:=af T;obtain⟨J1,J2,EO,ahK⟩:=h_4 j1 j2 pZ Z;clear p_ dW WS H I HC Z A j0 j1 j2 jx WR pZ
      go_wp2_with fail
      refine Zv.o.mono ?_;rintro e f ⟨lv,rfl,Q,C⟩;obtain⟨la,lc,rfl⟩:=cr Q;obtain⟨V,hV⟩:=xE (cC pt);rw[<-hV]at Q P |-;have Es:V.length<=1000000:=by have:=iL pt;have:=HZ2.o j dL.o;rw[<-HPT.o]at this;rw[hV];omega
      have G:V.Nodup:=by rw[hV];exact(lC pt).1.imp λh e=>by omega
      have gL:=eS Q (by omega) (c:=λi=>.int .i64 (cN V i)) (λi hi=>eH V i (by omega));have J:=(HFX.o.below ahK.o).below C;have SR:=(HMT.o.below ahK.o).below C;obtain⟨I7,R,akt,ER,L1,L2,CU⟩:=h_7 gL SR J G (cY C J1.o) (cY C J2.o) (ag EO.o C lR);clear Q C hV G gL J SR k0 k1 T a g zk S Zv;go_wp2;obtain⟨wo,E8⟩:=xE wr;subst E8
      go_loopw [79] (λi G=>∃m:Nat,m<=V.length/\i=.int .i64 m/\Fix (λq=>q=w2.heap.size) f G/\kE G (w2.heap.size+1) w2.heap.size (met++V.take m)/\∀x∈V.take m,(!met.contains x&&decide (x<r.vars))=true) (λi _=>V.length-(intOf i).toNat)
      case atStart=>exact⟨0,aw _,rfl,Fix.refl _ _,by rw[List.take_zero,bk];exact R.o,λx a=>by cases a⟩
      case round=>
       obtain⟨m,hm,rfl,J,Nj,l5⟩:=hrel;have i1:=(J.block _ (gE L1.o).1 (by have:=iV.o;omega)).trans L1.o;have i2:=(J.block _ (gE L2.o).1 (by have:=iV.o;omega)).trans L2.o;have WN:Below w.heap.size w wr:=CU.o.trans (J.toBelow (n:=w.heap.size) CU.o.size (λb e=>by have:=iV.o;omega));obtain⟨qD,HMI,HAL,HBI,I2⟩:=h_5 J Nj l5 WN i2;by_cases Zw:m<V.length
       ·have HLM:=hI Zw;obtain⟨_,ra,alU,wM,_,_,S⟩:=I7.o;obtain⟨rb1,ro1,mG,_,kH⟩:=S (by omega);cases wM;subst mG;have cx:wr.cell? ⟨rb1,ro1+m,none⟩=some (.int .i64 (cN V m)):=Ff J R.o.isMap (kH m (by omega));obtain⟨x,a⟩:=xE (cN V m);rw[<-a]at cx;have zcx:=af cx;have cm:=cZ Nj.box;have zcm:=af cm;have hl:=Nj.look x;have v5:=cr5 i1;have zv5:=af v5;have hmI:(m:Int)<(V.length:Int):=by omega
        have g:x∈V:=by rw[a];unfold cN;rw[ae Zw];exact aR Zw
        have T:x ∉ V.take m:=by
         intro hc;have z:=LX Zw;rw[<-a]at z;have E:(V.take (m+1)).Nodup:=ER.o.sublist (List.take_sublist _ _);rw[z,List.nodup_append]at E;exact E.2.2 x hc x (by simp) rfl
        have Gm:(met++V.take m).contains x=met.contains x:=by
         rw[aP];simp[T]
        rw[Gm]at hl;cases hold:met.contains x with
        |true=>
         have ER:Hd (rb=false):=hI (by
          rw[HV.o,O.o,P.o,ah];rw[aK];intro h;have:=h x g;rw[hold]at this;cases this)
         rw[hold]at hl;clear J Nj l5 i1 WN kH S g T Gm hold i2 a;exact aom
        |false=>
         rw[hold]at hl;by_cases u:x<r.vars
         ·have dv:decide (r.vars<=x)=false:=by simp;omega
          obtain⟨o,eo,wB⟩:=Nj.put x;have G:=hI wB.1;have Gk:Hd (Fix (λq=>q=w2.heap.size) f (wr.putObj w2.heap.size o)):=hI ⟨J.os,J.tape,J.output,by simpa using J.size,λb z E=>(aA E).trans (J.block b z E)⟩;have HAX:Hd ((!met.contains x&&decide (x<r.vars))=true):=hI (by rw[hold,aI u];rfl);have wS:Hd (V.take (m+1)=V.take m++[x]):=hI (by rw[LX Zw,a]);clear J Nj l5 i1 WN kH S g T Gm hold i2 a wB u;go_wp2
          go_roundw
          case rel=>exact⟨m+1,HLM.o,by go_num,Gk.o,by rw[wS.o,<-aG];exact G.o,λy hy=>by
           rw[wS.o]at hy;rcases aQ.1 hy with hy|hy
           ·exact HAL.o y hy
           ·rw[aJ.1 hy];exact HAX.o⟩
          case measure=>have:=HLM.o;simp[intOf];omega
         ·have dv:decide (r.vars<=x)=true:=by simp;omega
          have ER:Hd (rb=false):=hI (by
           rw[HV.o,O.o,P.o,ah];rw[aK];intro h;have:=h x g;rw[hold,aB u]at this;cases this)
          clear J Nj l5 i1 WN kH S g T Gm hold i2 a u;exact aom
       ·obtain rfl:m=V.length:=by omega
        clear J Nj l5 i1 WN i2;go_wp2
        go_roundw
        case rel=>
         refine⟨j+1,met++V,dL.o,by go_num,akt.o.trans qD.o,by have:=HMI.o;rwa [bE]at this,?_⟩;rw[O.o,P.o,aq];rw[aK];intro x a;have:=HAL.o x (by rw[bE];exact a);exact this
        case measure=>have:=dL.o;simp[intOf];omega
    ·obtain rfl:j=r.bT.len:=by omega
     have Ub:Hd (rb=yD r.vars (cC r.rhs) met (dM r.rhs)):=hI (by rw[HV.o,N,Fo.ie lR];rfl);have k0:=cZ g0;have k1:=eY g0;have t2:=fu g1;have t3:=xk g1;have t4:=Za g1;have zk:=af k0;have L:=af t2;have H:tV s r.rhs=cC r.rhs:=by unfold tV;rw[HC4.o];rfl
     have I:vu s r.rhs=0:=by unfold vu;rw[HC4.o];rfl
     have Zv:=hI (Bx s r.rhs _ _ wr B (HS.o.below (t.mono l.o) lR) ⟨_,rfl,HK.o.below (t.mono l.o) lR⟩ (by have:=t.size;have:=l.o;omega) Qp.o);rw[H,I]at Zv;clear rI hmt N g0 g1 g2 t H I
     go_wp2_with fail
     refine Zv.o.mono ?_;rintro e f ⟨lv,rfl,Q,C⟩;obtain⟨la,lc,rfl⟩:=cr Q;obtain⟨V,hV⟩:=xE (cC r.rhs);rw[<-hV]at Q Ub |-;have Es:V.length<=1000000:=by have:=iL r.rhs;have:=Qp.o;rw[hV];omega
     have gL:Ints f f.heap.size (.slice la V.length lc) V:=eS Q (by omega) (c:=λi=>.int .i64 (cN V i)) (λi hi=>eH V i (by omega));have G:=cY C G1.o;have t2:=fu G;have t3:=xk G;have t4:=Za G;have L:=af t2;have J:w.heap.size<f.heap.size:=by omega
     have SR:=HMT.o.below C;have T:=ag ir.o C lR;have L1:=hI G;have L2:=hI (cY C G2.o);have oJ:Hd (w.heap.size+3<=f.heap.size/\w2.heap.size+1<f.heap.size):=hI ⟨by have:=(gE L2.o).1;omega,(gE SR.box).1⟩;obtain⟨I7,R,CU⟩:=h_3 gL SR T;clear Q C hV gL G SR T k0 k1 zk Zv
     go_wp2_with (go_at_call 199;refine(Sa _ _ _ _ _ _ _ rfl).mono ?_;rintro e w' ⟨rfl,rfl⟩)
     obtain⟨g,T⟩:=xE ((f.alloc (.cells #[.slice la V.length lc] 74)).alloc (.cells #[.int .i64 r.rhs.a,.int .i64 r.rhs.n,.slice ka r.rhs.k.len kc] 54));have K:=cH f (.cells #[.slice la V.length lc] 74) (.cells #[.int .i64 r.rhs.a,.int .i64 r.rhs.n,.slice ka r.rhs.k.len kc] 54);have G:=Below.jE f (.cells #[.slice la V.length lc] 74) (.cells #[.int .i64 r.rhs.a,.int .i64 r.rhs.n,.slice ka r.rhs.k.len kc] 54);have a:g.heap.size=f.heap.size+2:=by rw[T];simp
     rw[<-T]at K G |-;obtain⟨nY,lX,Se,oy,jP,eO,HMS⟩:=h_7 (cY G L1.o) (cY G L2.o) K.1 K.2 (ag CU.o G lR) a (R.o.below G);have aku:Hd (Ints g g.heap.size (.slice la V.length lc) V):=hI ((I7.o.below G lR).mono G.size);have HX:Hd (cV g w.heap.size (.agg #[.int .i64 r.rhs.a,.int .i64 r.rhs.n,.slice ka r.rhs.k.len kc]) r.rhs):=hI ⟨_,rfl,(HK.o.mono l.o).below jP.o lR⟩;have P:∀(pre:List Nd) W,(Fix (λq=>q=w2.heap.size) g W/\kE W (w2.heap.size+1) w2.heap.size (met++k8 pre)/\∀post,pre++post=dM r.rhs->rb=yD r.vars V (met++k8 pre) post)->Below w.heap.size g W:=λpre W h=>h.1.toBelow (by have:=eO.o;have:=oJ.o;omega) λb e=>by have:=iV.o;omega
     have Sb:=hI P;clear K G a T P t2 t3 t4 L J;refine wpIn_wide.1 (Dg (n:=0) 230 #[.pointer (some ⟨f.heap.size+1,0,none⟩)] (cV g w.heap.size) (dM r.rhs) rfl (enters_of Tryz.func230 (by kernel_rfl) rfl)
      (λpre W=>Fix (λq=>q=w2.heap.size) g W/\kE W (w2.heap.size+1) w2.heap.size (met++k8 pre)/\∀post,pre++post=dM r.rhs->rb=yD r.vars V (met++k8 pre) post)
      (λc pre W=>c=.ret/\W.heap[w.heap.size+2]? =some (.cells #[.bool false] 4 (0,0))/\Below w.heap.size g W/\rb=false)
      (λpre W W' h hb=>⟨h.1.below hb,h.2.1.below hb,h.2.2⟩)
      (λpre W W' h U=>⟨h.1.same U (by omega),h.2.1.same U (by have:=eO.o;have:=oJ.o;omega) (by have:=eO.o;have:=oJ.o;omega),h.2.2⟩)
      (λc pre W W' h U=>⟨h.1,(U.2.2.2.2 _ (by have:=eO.o;have:=oJ.o;omega)).trans h.2.1,sV h.2.2.1 U (by have:=eO.o;have:=oJ.o;omega),h.2.2.2⟩)
      ⟨Fix.refl _ _,by show kE g _ _ (met++[]);rw[bk];exact HMS.o,λpost hp=>by rw[bL]at hp;subst hp;show _=yD _ _ (met++[]) _;rw[bk];exact Ub.o⟩
      (λJ L a G _ P W T S=>VZ _ _ w.heap.size g (by have:=eO.o;have:=oJ.o;omega) (by have:=eO.o;have:=oJ.o;omega) (dM r.rhs) J L a (λpre W h=>Sb.o pre W (G pre W h)) P r.rhs ka r.rhs.k.len kc (f.heap.size+1) W HX.o rfl (((G _ _ T).1.block _ (by have:=eO.o;omega) (by have:=oJ.o;omega)).trans oy.o) T S)
      ?round ?done ?stop)
     case round=>
      intro pre x post v W he hi hv bO;obtain⟨a,J,Z⟩:=x;obtain⟨xv,rfl,Kb⟩:=hv;dsimp only at Kb |-;obtain⟨xa,xc,rfl⟩:=Kb.slice
      gi_wp2
      refine⟨Below.cA _ _,λW2 rn=> ?_⟩;obtain⟨kf,Ht,SE⟩:=hi;have gS:=Below.cA W (.cells #[.int .i64 a,.int .i64 J,.slice xa Z.len xc] 54);have L:=(kf.below gS).same rn (by omega);have T:=(Ht.below gS).same rn (by have:=eO.o;have:=oJ.o;omega) (by have:=eO.o;have:=oJ.o;omega);have y5:W2.heap[W.heap.size]? =some (.cells #[.int .i64 a,.int .i64 J,.slice xa Z.len xc] 54 (0,0)):=(rn.2.2.2.2 _ (by have:=kf.size;omega)).trans (a_ _ _);have q1:=(L.block _ (show w.heap.size+1<g.heap.size by have:=eO.o;have:=oJ.o;omega) (by have:=iV.o;omega)).trans nY.o;have q2:=(L.block _ (show w.heap.size+2<g.heap.size by have:=eO.o;have:=oJ.o;omega) (by have:=iV.o;omega)).trans lX.o;have qL:=(L.block _ (show f.heap.size<g.heap.size by have:=eO.o;omega) (by have:=oJ.o;omega)).trans Se.o;have AS:=aku.o.fix L HMS.o.isMap;have hl:=T.look J;obtain⟨o,eo,hm3,_⟩:=T.put J;have x0:=cZ y5;have x1:=eY y5;have cm:=cZ T.box;have v5:=cr5 q1;have vL:=cZ qL;have c2:=cZ q2;have f2:W2.frozen? ⟨w.heap.size+1+1,0,none⟩=false:=by simp[World.frozen?,q2]
      have z0:=af x0;have zm:=af cm;have z5:=af v5;have zL:=af vL;have z2:=af c2;have S:Hd (rb=((if a=1 then decide (J<r.vars)else if a=8 then decide (J<r.vars)&& !(met++k8 pre).contains J&& !V.contains J else true)&&yD r.vars V (if a=8 then(met++k8 pre)++[J]else met++k8 pre) post)):=hI (SE _ he);have rQ:Hd (met++k8 (pre++[(⟨a,J,Z⟩:Nd)])=if a=8 then(met++k8 pre)++[J]else met++k8 pre):=hI (by
       rw[Cj,wz];show met++(k8 pre++((if a=8 then[J]else[])++[]))=_;by_cases h:a=8
       ·rw[aq h,aq h];simp
       ·rw[ah h,ah h];simp)
      have HPO:Hd (∀P,(pre++[(⟨a,J,Z⟩:Nd)])++P=dM r.rhs->P=post):=hI λP h=>by
       exact aoj
      obtain⟨yq,HM2,CW,RW,HCT⟩:=h_5 L T hm3 q2 (xj (.slice la V.length lc) V J W2 AS);obtain⟨old,hold⟩:=xE ((met++k8 pre).contains J);obtain⟨fr,G⟩:=xE (V.contains J);rw[<-hold]at hl S;rw[<-G]at S;unfold mH at HCT;rw[<-G]at HCT;clear kf Ht SE gS L T hm3 y5 q1 q2 qL rn he hold AS G;by_cases z:a=1
      ·have e1:(a==1)=true:=by rw[z];rfl
       have Jw:Hd (rb=(decide (J<r.vars)&&yD r.vars V (met++k8 pre) post)):=hI (by rw[S.o,aq z,ah (show ¬a=8 by omega)]);have T:Hd (met++k8 (pre++[(⟨a,J,Z⟩:Nd)])=met++k8 pre):=hI (by rw[rQ.o,ah (show ¬a=8 by omega)]);clear z S rQ;by_cases u:J<r.vars
       ·have dv:decide (r.vars<=J)=false:=by simp;omega
        have B1:=hI u;clear u
        gi_wp2
        refine⟨cq.refl _ _,yq.o,by rw[T.o];exact HM2.o,λP vZ=> ?_⟩;obtain rfl:=HPO.o P vZ;rw[Jw.o,T.o,aI B1.o,aU]
       ·have dv:decide (r.vars<=J)=true:=by simp;omega
        have B1:=hI u;clear u
        gi_wp2
        exact am3
      ·have e1:(a==1)=false:=by rw[beq_eq_false_iff_ne];exact z
       by_cases L:a=8
       ·have e8:(a==8)=true:=by rw[L];rfl
        have Jw:Hd (rb=(decide (J<r.vars)&& !old&& !fr&&yD r.vars V ((met++k8 pre)++[J]) post)):=hI (by rw[S.o,ah z,aq L,aq L]);have T:Hd (met++k8 (pre++[(⟨a,J,Z⟩:Nd)])=(met++k8 pre)++[J]):=hI (by rw[rQ.o,aq L]);clear z L S rQ;by_cases u:J<r.vars
        ·have dv:decide (r.vars<=J)=false:=by simp;omega
         have B1:=hI u;clear u;cases old with
         |true=>
          gi_wp2
          exact am5
         |false=>
          gi_wp2
          refine(CallsIn.inRound _ (callsIn_wide.2 HCT.o)).mono ?_;rintro e w' ⟨rfl,G⟩;rw[G];clear G w';cases fr with
          |true=>
           gi_wp2
           exact am5
          |false=>
           gi_wp2
           refine⟨⟨by simp,λb oo hb ho=>(aA (by have:=eO.o;have:=oJ.o;omega)).trans ho⟩,?_,?_,?_⟩
           ·exact⟨yq.o.os,yq.o.tape,yq.o.output,by simpa using yq.o.size,λb de bD=>(aA bD).trans (yq.o.block b de bD)⟩
           ·rw[T.o];exact CW.o
           ·intro P vZ;obtain rfl:=HPO.o P vZ;rw[Jw.o,T.o,aI B1.o];rfl
        ·have dv:decide (r.vars<=J)=true:=by simp;omega
         have B1:=hI u;clear u
         gi_wp2
         exact am3
       ·have e8:(a==8)=false:=by rw[beq_eq_false_iff_ne];exact L
        have Jw:Hd (rb=yD r.vars V (met++k8 pre) post):=hI (by rw[S.o,ah z,ah L,ah L];rfl);have T:Hd (met++k8 (pre++[(⟨a,J,Z⟩:Nd)])=met++k8 pre):=hI (by rw[rQ.o,ah L]);clear z L S rQ
        gi_wp2
        refine⟨cq.refl _ _,yq.o,by rw[T.o];exact HM2.o,λP vZ=> ?_⟩;obtain rfl:=HPO.o P vZ;rw[Jw.o,T.o]
     case done=>
      rintro D W a ⟨X,_,hp⟩ G;have E:=(X.block _ (show w.heap.size+2<g.heap.size by have:=eO.o;have:=oJ.o;omega) (by have:=iV.o;omega)).trans lX.o;have ce:=cZ E;have P:W.frozen? ⟨w.heap.size+1+1,0,none⟩=false:=by simp[World.frozen?,E]
      have S:=af ce;have J:Hd (rb=true):=hI (hp [] (by simp));have L:=hI (jP.o.trans (X.toBelow (n:=w.heap.size) (by have:=eO.o;have:=oJ.o;omega) (λb e=>by have:=iV.o;omega)));have T:=hI G;clear X hp G E;go_wp2;refine iZ (v:=.bool true) D ((au _ _ _ _ (by show D≠w.heap.size+1+1;have:=eO.o;have:=oJ.o;omega)).trans T.o) (di rfl rfl (dz Tryz.underlying4 rfl ?_)) rfl ⟨?_,?_⟩
      ·rw[gZ (by have:=eO.o;have:=oJ.o;omega)];exact World.cell?_setCell_same _ _ _ ce
      ·rw[J.o]
      ·exact dI (L.o.setCell (p:=⟨w.heap.size+1+1,0,none⟩) (by show w.heap.size<=w.heap.size+1+1;omega) _) (by have:=eO.o;have:=oJ.o;omega) _
     case stop=>
      rintro D c pre W a ⟨rfl,E,hb,L⟩ G;have ce:=cZ E;obtain⟨J,T,P⟩:=h_3 hb G L;clear hb G L E
      gi_wp2
      refine iZ (v:=.bool false) D T.o (di rfl rfl (dz Tryz.underlying4 rfl ?_)) rfl ⟨?_,?_⟩
      ·rw[gZ (by have:=eO.o;have:=oJ.o;omega)];exact ce
      ·rw[P.o]
      ·exact dI (jP.o.trans J.o) (by have:=eO.o;have:=oJ.o;omega) _
end
section
open Go Go.RowKit
attribute [local go_sem] aT cW df
def nh(r:oN):Prop:=r.rhs.size<=1000000/\(∀i,i<r.bT.len->(r.bT.at i).size<=1000000)/\r.bT.len<=1000000
theorem OH(s:Sg)(r:oN)(f g:Option Addr)(cc i:Nat)(l v:Value)(q:Nat)(w:World)(B:Nat)(c:w.heap[q]? =some (.cells #[.slice f s.cons.length cc,.slice g s.bj.length i,l] 42 (0,0)))
 (j:ku w B (.agg #[.slice f s.cons.length cc,.slice g s.bj.length i]) s) (k:I1 w B v r) (hB:B<=w.heap.size) (b:nh r):
 aH Tryz.prog 147 #[v,.pointer (some ⟨q,0,none⟩)] w (.bool (oC s r)):=by
 have m:=hI k;obtain⟨u,kv,rfl,hp,d⟩:=k;have x:=hp.small;have y:=d.small;obtain⟨n,o,rfl⟩:=hp.slice;obtain⟨ka,kc,rfl⟩:=d.slice;have c0:=cZ c;have c1:=eY c;have z0:=af c0;have a:=Below.cA w (.cells #[.int .i64 r.fn,.slice n r.bT.len o,.int .i64 r.rhs.a,.int .i64 r.rhs.n,.slice ka r.rhs.k.len kc,.int .i64 r.vars] 139);have p:=hI (SQ s r _ _ _ B (j.below a hB) (m.o.below a hB) (ai hB a.size) b.1 b.2.1 b.2.2);have t:=hI a;clear c j hp d a b;unfold aH
 go_enter Tryz.func147,Tryz.ntmps147
 go_wp2_with fail
 refine p.o.mono ?_;rintro e d ⟨rfl,a⟩;have b:=hI (ag t.o a lR);clear a;go_wp2;go_ret;exact⟨rfl,b.o⟩
theorem LZ(s:Sg)(l:List oN)(b d:Option Addr)(cc f:Nat)(g v:Value)(q:Nat)(w:World)(B:Nat)(n:w.heap[q]? =some (.cells #[.slice b s.cons.length cc,.slice d s.bj.length f,g] 42 (0,0)))
 (o:ku w B (.agg #[.slice b s.cons.length cc,.slice d s.bj.length f]) s) (p:j4 w B v l) (hB:B<=w.heap.size) (t:∀r∈l,nh r):
 aH Tryz.prog 146 #[v,.func (.func 147) #[] #[.pointer (some ⟨q,0,none⟩)]] w (.bool (l.all (oC s))):=by
 obtain⟨c,u,x⟩:=p;refine(N5 w.heap.size v l.length c 147 #[.pointer (some ⟨q,0,none⟩)]
  (λk X=>Below w.heap.size w X/\(l.take k).all (oC s)=true) (λk X=>Below w.heap.size w X/\l.all (oC s)=false) w lR
  (enters_of Tryz.func147 (by kernel_rfl) rfl)
  (λk X y h G=>⟨ag h.1 G lR,h.2⟩)
  (λk X h=>(u.below h.1 hB).mono (ai hB h.1.size))
  (λk a X h=> ?_) ⟨bR,rfl⟩).mono ?_
 ·obtain⟨z,A,C,D,E,F⟩:=x k a;have i:cQ l k=l[k]:=by unfold cQ;rw[ae a];rfl
  have j:cQ l k∈l:=by rw[i];exact aR a
  have H:I1 X B (.agg #[c (k*6),c (k*6+1),c (k*6+2),c (k*6+3),c (k*6+4),c (k*6+5)]) (cQ l k):=⟨_,_,by rw[z,C,D,F],A.below h.1 hB,E.below h.1 hB⟩;refine(OH s (cQ l k) b d cc f g _ q X B (cY h.1 n) (o.below h.1 hB) H (ai hB h.1.size) (t _ j)).mono ?_;rintro e y ⟨rfl,G⟩;cases m:oC s (cQ l k)with
  |true=>exact .inl ⟨rfl,⟨ag h.1 G lR,by rw[aV a,List.all_append,h.2,<-i];simp[m]⟩,cq.cB G⟩
  |false=>exact .inr ⟨rfl,ag h.1 G lR,by rw[List.all_eq_false];exact⟨_,j,by rw[m];decide⟩⟩
 ·exact anm
theorem Hw(p:Pg)(v:Value)(w:World)(B:Nat)(hp:I0 w B v p)(hB:B<=w.heap.size)(t:∀r∈p.rules,nh r):
 aH Tryz.prog 94 #[v] w (.bool (ez p)):=by
 obtain⟨cv,fv,rv,rfl,hc,G,c⟩:=hp;have C:=hc.small;have D:=G.small;have E:=c.small;obtain⟨i,cc,rfl⟩:=hc.slice;obtain⟨j,k,rfl⟩:=G.slice;obtain⟨l,rc,rfl⟩:=c.slice;have b:=Below.cA w (.cells #[.slice i p.sig.cons.length cc,.slice j p.sig.bj.length k,.slice l p.rules.length rc] 42);obtain⟨u,d,m,z,n,o,g,A⟩:=h_8 (a_ w (.cells #[.slice i p.sig.cons.length cc,.slice j p.sig.bj.length k,.slice l p.rules.length rc] 42)) (z_ p.sig _ _ _ B (hc.below b hB) (G.below b hB) (ai hB b.size)) b hc G c hB t;have F:∀(fn:Fn) (first cap:Array Value) (w:World),(Instr.makeFunc fn first cap).run Tryz.prog w=.ok (.func fn first cap) w:=λ_ _ _ _=>rfl;obtain⟨rb,f⟩:=xE (ez p);rw[<-f];have q:=hI f;clear hc G c b hB t f;unfold aH;cases a:fA p.sig with
 |false=>
  have f:Hd (rb=false):=hI (by rw[q.o];unfold ez;rw[a];rfl);rw[a]at d
  go_enter Tryz.func94,Tryz.ntmps94
  go_wp2_with fail
  refine d.o.mono ?_;rintro e s ⟨rfl,hb⟩;have cR:=hI (ag m.o hb lR);clear hb;go_wp2;go_ret;exact⟨by rw[f.o];rfl,cR.o⟩
 |true=>
  rw[a]at d;by_cases b:p.rules.length<=16
  case neg=>
   have d16:decide ((p.rules.length:Int)<=16)=false:=by simp;omega
   have f:Hd (rb=false):=hI (by rw[q.o];unfold ez;rw[a,aB b];rfl);clear a b
   go_enter Tryz.func94,Tryz.ntmps94
   go_wp2_with fail
   refine d.o.mono ?_;rintro e s ⟨rfl,hb⟩;have c:=cY hb u.o;have c2:=fu c;have z2:=af c2;have cR:=hI (ag m.o hb lR);clear hb c;go_wp2;go_ret;exact⟨by rw[f.o];rfl,cR.o⟩
  case pos=>
   have d16:decide ((p.rules.length:Int)<=16)=true:=by simp;omega
   have f:Hd (rb=p.rules.all (oC p.sig)):=hI (by
    rw[q.o];unfold ez;rw[a,aI b,aU,aU];rw[aP,aK,aK];exact⟨λh x G=>by rw[Fe a];exact h x G,λh x G=>by rw[<-Fe a];exact h x G⟩)
   clear a b
   go_enter Tryz.func94,Tryz.ntmps94
   go_wp2_with fail
   refine d.o.mono ?_;rintro e s ⟨rfl,hb⟩;have c:=cY hb u.o;have c2:=fu c;have z2:=af c2;have G:=ag m.o hb lR;have y:=hI (LZ p.sig p.rules i j cc k _ (.slice l p.rules.length rc) w.heap.size s B c ⟨_,_,rfl,z.o.below G g.o,n.o.below G g.o⟩ (o.o.below G g.o) (ai g.o G.size) A.o);rw[<-f.o]at y;have cR:=hI G;clear hb c G
   go_wp2_with fail
   refine y.o.mono ?_;exact anv
theorem OI(d:fV)(cv:Value)(w:World)(B:Nat)(f:d.name.size<=140737488355328)(hc:lS w B cv d.cons):
 aH Tryz.prog 178 #[.agg #[.string d.name,.int .i64 d.params,cv]] w (.bool (gM d)):=by
 have l:=hc.small;obtain⟨b,cc,rfl⟩:=hc.slice;have G:=Below.cA w (.cells #[.string d.name,.int .i64 d.params,.slice b d.cons.length cc] 186);have g:=hI (a_ w (.cells #[.string d.name,.int .i64 d.params,.slice b d.cons.length cc] 186));have kV:=hI G;have c:gM d=(eV d.name&&fX d.params 0 3&&decide (0<d.cons.length)):=by
  unfold gM fX;have:decide (1<=d.cons.length)=decide (0<d.cons.length):=by rw[aP];simp;omega
  rw[this,<-Bool.and_assoc]
 rw[c];clear hc G c;unfold aH;have a:=hI (I6 d.name (w.alloc (.cells #[.string d.name,.int .i64 d.params,.slice b d.cons.length cc] 186)) f);cases c1:eV d.name with
 |false=>
  rw[c1]at a
  go_enter Tryz.func178,Tryz.ntmps178
  go_wp2_with fail
  refine a.o.mono ?_;exact anu
 |true=>
  rw[c1]at a;cases c2:fX d.params 0 3
  all_goals
   have c:Hd (∀W,aH Tryz.prog 176 #[.int .i64 d.params,.int .i64 0,.int .i64 3] W (.bool (fX d.params 0 3))):=hI λW=>NX _ _ _ _;rw[c2]at c;clear c1 c2
   go_enter Tryz.func178,Tryz.ntmps178
   go_wp2_with fail
   refine a.o.mono ?_;rintro e w2 ⟨rfl,hb⟩;have G:=cY hb g.o;have x1:=eY G;have m:=af x1;have cR:=hI (ag kV.o hb lR);have i:=hI G;clear hb G
   go_wp2_with fail
   refine(c.o _).mono ?_;rintro e n ⟨rfl,hb⟩;have G:=cY hb i.o;have j:=fu G;have z3:=af j;have k:=hI (ag cR.o hb lR);clear hb G;go_wp2;go_ret;exact⟨rfl,k.o⟩
theorem WV(ds:List fV)(v:Int)(t:Nd)(tv dv cv q:Value)(q1 e:Nat)(w:World)(B:Nat)(f:eB w B dv ds)(k:cV w B tv t)(hB:B<=w.heap.size)
 (l:w.heap[q1]? =some (.cells #[dv] 22 (0,0))) (m:w.heap[e]? =some (.cells #[q,.int .i64 v,cv] 186 (0,0))):
 aH Tryz.prog 181 #[tv,.pointer (some ⟨q1,0,none⟩),.pointer (some ⟨e,0,none⟩)] w (.bool (dB ds 20 t&&decide (pY t<v))):=by
 have n:=hI k;have r:=hI f;obtain⟨kv,rfl,g⟩:=k;have y:=g.small;obtain⟨ka,kc,rfl⟩:=g.slice;obtain⟨o,dc,rfl⟩:=f.slice;obtain⟨b,i⟩:=xE (w.alloc (.cells #[.int .i64 t.a,.int .i64 t.n,.slice ka t.k.len kc] 26));obtain⟨a,c⟩:=qS w (.cells #[.int .i64 t.a,.int .i64 t.n,.slice ka t.k.len kc] 26);rw[<-i]at a c;have s:b.cell? ⟨q1,0,none⟩=some (.slice o ds.length dc):=by rw[cell_of_row _ _ _ _ _ _ (cY a l)];rfl
 have a2:b.cell? ⟨e,1,none⟩=some (.int .i64 v):=by rw[cell_of_row _ _ _ _ _ _ (cY a m)];rfl
 have x0:=cZ c;have x1:=eY c;have z:=fu c;have A:=af s;have z2:=af a2;have C:=af x0;have p:Hd (∀d os,aH Tryz.prog 130 #[.slice o ds.length dc,.agg #[.int .i64 t.a,.int .i64 t.n,.slice ka t.k.len kc]] (Go.Sort.grow (redrawn b d) os) (.bool (dB ds 20 t))):=hI λd os=>
  Hf ds t _ _ _ B ((r.o.below a hB).below (below_regrown b d os) (by have:=a.size;omega)) ((n.o.below a hB).below (below_regrown b d os) (by have:=a.size;omega)) (ai (show B<=b.heap.size by have:=a.size;omega) (below_regrown b d os).size)
 have j:Hd (∀d os,aH Tryz.prog 182 #[.agg #[.int .i64 t.a,.int .i64 t.n,.slice ka t.k.len kc]] (Go.Sort.grow (redrawn b d) os) (.int .i64 (pY t))):=hI λd os=>
  Sc t _ _ B ((n.o.below a hB).below (below_regrown b d os) (by have:=a.size;omega)) (ai (show B<=b.heap.size by have:=a.size;omega) (below_regrown b d os).size)
 have u:=hI a;have x:=hI i;clear f g l m a c i;unfold aH;cases c1:dB ds 20 t
 all_goals
  rw[c1]at p;clear c1
  go_enter Tryz.func181,Tryz.ntmps181
  go_upto_region 1 with fail
  rw[<-x.o];refine aM (by kernel_rfl) (by kernel_rfl) ?_
  repeat go_big_quiet_step ((first|(with_reducible exact aH.quiet (p.o _ _))|(with_reducible exact aH.quiet (j.o _ _))))
  refine wpQuiet_nil ?_;intro g a;have c:=hI (ag u.o a lR);clear a;go_wp2;go_ret;exact⟨rfl,c.o⟩
end
section
open Go Go.RowKit
theorem L3(v:Int):∀(l:List Nd) (o:Int),l.foldl nM o<v↔o<v/\∀x∈l,x.a=1->x.n<v
 |[],o=>by simp
 |x::l,o=>by
  rw[List.foldl_cons,L3 v l,List.forall_mem_cons];unfold nM;by_cases h:x.a=1
  ·rw[aq h];constructor
   ·rintro⟨a,b⟩;exact⟨by omega,λ_=>by omega,b⟩
   ·rintro⟨a,b,c⟩;exact⟨by have:=b h;omega,c⟩
  ·rw[ah h];constructor
   ·rintro⟨a,b⟩;exact⟨a,λe=>ay e h,b⟩
   ·rintro⟨a,_,c⟩;exact⟨a,c⟩
theorem OK{ds:List fV}{t:Nd}(g:0<=v)(i:v<=20):(dB ds 20 t&&decide (pY t<v))=dB ds v t:=by
 unfold dB pY;rw[aP,ak,ak,ak,pW,pW,aK,aK];simp only[decide_eq_true_eq];rw[L3];constructor
 ·rintro⟨⟨d,c⟩,_,e⟩;refine⟨d,λx b=> ?_⟩;have:=c x b;unfold dA at this |-;by_cases a:x.a=1
  ·rw[aq a]at this |-;have f:=e x b a;simp only[ak,decide_eq_true_eq]at this |-;exact⟨⟨this.1.1,f⟩,this.2⟩
  ·rw[ah a]at this |-;exact this
 ·rintro⟨d,c⟩;refine⟨⟨d,λx b=> ?_⟩,by omega,λx b a=> ?_⟩
  ·have:=c x b;unfold dA at this |-;by_cases a:x.a=1
   ·rw[aq a]at this |-;simp only[ak,decide_eq_true_eq]at this |-;exact⟨⟨this.1.1,by omega⟩,this.2⟩
   ·rw[ah a]at this |-;exact this
  ·have:=c x b;unfold dA at this;rw[aq a]at this;simp only[ak,decide_eq_true_eq]at this;exact this.1.2
attribute [local go_sem] aT cW df
def L4(ds:List fV)(v:Int)(t:Nd):Bool:=dB ds 20 t&&decide (pY t<v)
theorem OL(ds:List fV)(v:Int)(F:Fo)(fv dv cv f:Value)(q1 a:Nat)(w:World)(B:Nat)(g:eB w B dv ds)(hF:dr w B fv F)(hB:B<=w.heap.size)
 (h1:w.heap[q1]? =some (.cells #[dv] 22 (0,0))) (h2:w.heap[a]? =some (.cells #[f,.int .i64 v,cv] 186 (0,0))):
 aH Tryz.prog 185 #[fv,.func (.func 181) #[] #[.pointer (some ⟨q1,0,none⟩),.pointer (some ⟨a,0,none⟩)]] w (.bool (F.list.all (L4 ds v))):=by
 obtain⟨c,i,j⟩:=hF;refine(yw w.heap.size fv F.len c 181 #[.pointer (some ⟨q1,0,none⟩),.pointer (some ⟨a,0,none⟩)]
  (λk X=>Below w.heap.size w X/\(F.list.take k).all (L4 ds v)=true) (λk X=>Below w.heap.size w X/\F.list.all (L4 ds v)=false) w lR
  (enters_of Tryz.func181 (by kernel_rfl) rfl)
  (λk X l h G=>⟨ag h.1 G lR,h.2⟩)
  (λk X h=>(i.below h.1 hB).mono (ai hB h.1.size))
  (λk d X h=> ?_) ⟨bR,rfl⟩).mono ?_
 ·obtain⟨c0,c1,c2⟩:=j.at d;have m:cV X B (.agg #[c (k*3),c (k*3+1),c (k*3+2)]) (F.at k):=⟨_,by rw[c0,c1],c2.below h.1 hB⟩;refine(WV ds v (F.at k) _ dv cv f q1 a X B (g.below h.1 hB) m (ai hB h.1.size) (cY h.1 h1) (cY h.1 h2)).mono ?_;rintro e l ⟨rfl,G⟩;cases b:L4 ds v (F.at k)with
  |true=>exact .inl ⟨by rw[show(dB ds 20 (F.at k)&&decide (pY (F.at k)<v))=true from b],⟨ag h.1 G lR,by rw[LO d,h.2,b];rfl⟩,cq.cB G⟩
  |false=>exact .inr ⟨by rw[show(dB ds 20 (F.at k)&&decide (pY (F.at k)<v))=false from b],ag h.1 G lR,WB d b⟩
 ·exact anF
theorem WW(ds:List fV)(v:Int)(F:Fo)(fv dv cv c:Value)(q1 b qa:Nat)(w:World)(B:Nat)(d:eB w B dv ds)(hF:dr w B fv F)(hB:B<=w.heap.size)
 (f:w.heap[q1]? =some (.cells #[dv] 22 (0,0))) (g:w.heap[b]? =some (.cells #[c,.int .i64 v,cv] 186 (0,0)))
 (i:w.heap[qa]? =some (.cells #[.func (.func 181) #[] #[.pointer (some ⟨q1,0,none⟩),.pointer (some ⟨b,0,none⟩)]] 80 (0,0))):
 aH Tryz.prog 184 #[fv,.pointer (some ⟨qa,0,none⟩)] w (.bool (decide (F.len<=4)&&F.list.all (L4 ds v))):=by
 have j:=hI (OL ds v F fv dv cv c q1 b w B d hF hB f g);have l:=hF.small;obtain⟨m,n,rfl⟩:=hF.slice;have k:=cZ i;have o:=af k;clear d hF f g i;unfold aH;by_cases a:F.len<=4
 ·have d4:decide ((F.len:Int)<=4)=true:=by simp;omega
  rw[aI a,aU];clear a
  go_enter Tryz.func184,Tryz.ntmps184
  go_wp2_with fail
  refine j.o.mono ?_;rintro e i ⟨rfl,f⟩;have g:=hI f;clear f;go_wp2;go_ret;exact⟨rfl,g.o⟩
 ·have d4:decide ((F.len:Int)<=4)=false:=by simp;omega
  rw[aB a,Bool.false_and];clear a j
  go_enter Tryz.func184,Tryz.ntmps184
  go_wp2;go_ret;exact⟨rfl,bR⟩
def Ah(ds:List fV)(v:Int)(F:Fo):Bool:=decide (F.len<=4)&&F.list.all (L4 ds v)
theorem L5(ds:List fV)(v:Int)(l:List Fo)(lv dv cv f:Value)(q1 d qa:Nat)(w:World)(B:Nat)(i:eB w B dv ds)(j:lS w B lv l)(hB:B<=w.heap.size)
 (h1:w.heap[q1]? =some (.cells #[dv] 22 (0,0))) (h2:w.heap[d]? =some (.cells #[f,.int .i64 v,cv] 186 (0,0)))
 (m:w.heap[qa]? =some (.cells #[.func (.func 181) #[] #[.pointer (some ⟨q1,0,none⟩),.pointer (some ⟨d,0,none⟩)]] 80 (0,0))):
 aH Tryz.prog 183 #[lv,.func (.func 184) #[] #[.pointer (some ⟨qa,0,none⟩)]] w (.bool (l.all (Ah ds v))):=by
 obtain⟨c,n,o⟩:=j;refine(R_ w.heap.size lv l.length c 184 #[.pointer (some ⟨qa,0,none⟩)]
  (λk X=>Below w.heap.size w X/\(l.take k).all (Ah ds v)=true) (λk X=>Below w.heap.size w X/\l.all (Ah ds v)=false) w lR
  (enters_of Tryz.func184 (by kernel_rfl) rfl)
  (λk X p h G=>⟨ag h.1 G lR,h.2⟩)
  (λk X h=>(n.below h.1 hB).mono (ai hB h.1.size))
  (λk a X h=> ?_) ⟨bR,rfl⟩).mono ?_
 ·have g:dD l k=l[k]:=by unfold dD;rw[ae a];rfl
  have q:dD l k∈l:=by rw[g];exact aR a
  refine(WW ds v (dD l k) _ dv cv f q1 d qa X B (i.below h.1 hB) ((o k a).below h.1 hB) (ai hB h.1.size) (cY h.1 h1) (cY h.1 h2) (cY h.1 m)).mono ?_;rintro e p ⟨rfl,G⟩;cases b:Ah ds v (dD l k)with
  |true=>exact .inl ⟨by rw[show(decide ((dD l k).len<=4)&&(dD l k).list.all (L4 ds v))=true from b],⟨ag h.1 G lR,by rw[aV a,List.all_append,h.2,<-g];simp[b]⟩,cq.cB G⟩
  |false=>exact .inr ⟨by rw[show(decide ((dD l k).len<=4)&&(dD l k).list.all (L4 ds v))=false from b],ag h.1 G lR,by rw[List.all_eq_false];exact⟨_,q,by rw[b];decide⟩⟩
 ·exact anm
theorem Ai(l:List fV)(lv:Value)(w:World)(B:Nat)(f:eB w B lv l)(hB:B<=w.heap.size):
 aH Tryz.prog 180 #[lv,.func (.func 178) #[] #[]] w (.bool (l.all gM)):=by
 obtain⟨c,g,i⟩:=f;refine(N4 w.heap.size lv l.length c 178 #[]
  (λk X=>Below w.heap.size w X/\(l.take k).all gM=true) (λk X=>Below w.heap.size w X/\l.all gM=false) w lR
  (enters_of Tryz.func178 (by kernel_rfl) rfl)
  (λk X j h G=>⟨ag h.1 G lR,h.2⟩)
  (λk X h=>(g.below h.1 hB).mono (ai hB h.1.size))
  (λk a X h=> ?_) ⟨bR,rfl⟩).mono ?_
 ·obtain⟨m,n,o,p⟩:=i k a;have b:b8 l k=l[k]:=by unfold b8;rw[ae a];rfl
  have q:b8 l k∈l:=by rw[b];exact aR a
  rw[m,n];refine(OI (b8 l k) _ X B p (o.below h.1 hB)).mono ?_;rintro e j ⟨rfl,G⟩;cases d:gM (b8 l k)with
  |true=>exact .inl ⟨rfl,⟨ag h.1 G lR,by rw[aV a,List.all_append,h.2,<-b];simp[d]⟩,cq.cB G⟩
  |false=>exact .inr ⟨rfl,ag h.1 G lR,by rw[List.all_eq_false];exact⟨_,q,by rw[d];decide⟩⟩
 ·exact anm
end
section
open Go Go.RowKit
theorem Hx(p:Nd->Bool):∀F:Fo,pO p F=F.list.all p
 | .nil=>rfl
 | .cons a n k r=>by unfold pO Fo.list;rw[List.all_cons,Hx p r]
theorem L6{ds:List fV}(a:0<=v)(b:v<=20)(F:Fo):Ah ds v F=pR ds v F:=by
 unfold Ah pR;rw[Hx]
 congr 2
 funext t
 exact OK a b
def uo(l:List fV):Nat:=(l.map λd=>d.cons.length).sum
theorem Hy(ds:List fV):∀(l:List fV) (ns:List ByteArray) (c:Nat),pS ds ns c l=true↔(∀d∈l,gM d=true/\d.cons.all (pR ds d.params)=true)/\(l.map (·.name)).Nodup/\(∀d∈l,nF ns d.name=false)/\(l=[]\/c+uo l<=12)
 |[],ns,c=>by simp[pS]
 |d::l,ns,c=>by
  have m:=Hy ds l (ns++[d.name]) (c+d.cons.length);have n:uo (d::l)=d.cons.length+uo l:=by unfold uo;simp
  have b:∀x,nF (ns++[d.name]) x=(nF ns x||decide (d.name=x)):=λx=>by unfold nF;rw[List.any_append];simp
  unfold pS;simp only[ak,Bool.not_eq_true',decide_eq_true_eq];rw[m,bz,List.nodup_cons,List.forall_mem_cons,List.forall_mem_cons,n];constructor
  ·rintro⟨⟨⟨⟨f,a2⟩,a3⟩,a4⟩,g,i,j,k⟩;refine⟨⟨⟨f,a4⟩,g⟩,⟨λhm=> ?_,i⟩,⟨a2,λx a=> ?_⟩,.inr ?_⟩
   ·obtain⟨x,a,e⟩:=aN.1 hm;have:=j x a;rw[b,e]at this;simp at this
   ·have:=j x a;rw[b,Bool.or_eq_false_iff]at this;exact this.1
   ·rcases k with rfl|k
    ·show c+(d.cons.length+0)<=12;omega
    ·omega
  ·rintro⟨⟨⟨f,a4⟩,g⟩,⟨c1,i⟩,⟨a2,c2⟩,c3⟩;have c3:=c3.resolve_left (by simp);refine⟨⟨⟨⟨f,a2⟩,by omega⟩,a4⟩,g,i,λx a=> ?_,.inr (by omega)⟩;rw[b,c2 x a,Bool.false_or,aB λe=>c1 (aN.2 ⟨x,a,e.symm⟩)]
def oT(ds:List fV):Bool:=fX ds.length 1 6&&decide (uo ds<=12)&&ds.all gM&&ds.all (λd=>d.cons.all (Ah ds d.params))&&(decide (ds.map (·.name)).Nodup&&Ex (b8 ds 0))
theorem q_(ds:List fV):oT ds=dg ds:=by
 unfold oT dg fX;rw[aP];simp only[ak,decide_eq_true_eq,Hy,aK];have hc:∀d∈ds,gM d=true->∀F∈d.cons,Ah ds d.params F=pR ds d.params F:=λd _ h F _=>by
  unfold gM at h;simp only[ak,decide_eq_true_eq]at h;exact L6 (by omega) (by omega) F
 constructor
 ·rintro⟨⟨⟨⟨⟨b,a2⟩,a3⟩,a4⟩,a5⟩,f,c⟩;refine⟨⟨⟨by omega,by omega⟩,c⟩,λd a=>⟨a4 d a,λF hF=> ?_⟩,f,λd a=>rfl,.inr (by omega)⟩;rw[<-hc d a (a4 d a) F hF];exact a5 d a F hF
 ·rintro⟨⟨⟨b,a2⟩,c⟩,f,i,_,g⟩;have g:=g.resolve_left (λe=>by rw[e]at b;simp at b);refine⟨⟨⟨⟨⟨by omega,by omega⟩,by omega⟩,λd a=>(f d a).1⟩,λd a F hF=> ?_⟩,i,c⟩;rw[hc d a (f d a).1 F hF];exact(f d a).2 F hF
end
section
theorem tn{ds:List fV}:∀{F:Fo},ou (dA ds v) F=true->F.jL/\F.plain/\(∀x,F.has x->0<=x/\x<v)
 | .nil,_=>⟨trivial,trivial,λ_ h=>h.elim⟩
 | .cons a n k r,h=>by
  unfold ou at h;simp only[ak]at h;obtain⟨i,j,l⟩:=tn h.1.2;obtain⟨r1,r2,g⟩:=tn h.2;have c:=h.1.1;unfold dA at c;have d:a≠0:=by
   intro e;subst e;simp at c
  refine⟨⟨d,i,r1⟩,⟨λf=> ?_,j,r2⟩,λx b=> ?_⟩
  ·subst f;simp at c;cases k with
   |nil=>rfl
   |cons _ _ _ _=>have:=c.2;unfold Fo.len at this;omega
  ·unfold Fo.has at b
   split at b
   ·rename_i f;subst f;simp at c;rcases b with rfl|b
    ·exact⟨c.1.1,c.1.2⟩
    ·exact g x b
   ·rcases b with b|b
    ·exact l x b
    ·exact g x b
theorem vz{p:Int->Int->Nat->Bool}{t:Nd}(h:ew p t=true):ou p t.one=true:=by
 unfold ew at h;unfold Nd.one ou;rw[h];rfl
theorem wC{ds:List fV}{t:Nd}(h:dB ds v t=true):t.one.jL/\t.one.plain/\(∀x,t.one.has x->0<=x/\x<v):=by
 unfold dB at h;simp only[ak]at h;exact tn (vz h.2)
theorem L7{ds:List fV}{t:Nd}(h:dB ds v t=true):t.ok:=⟨(wC h).1,λx a=>((wC h).2.2 x a).1,(wC h).2.1⟩
theorem Jy{ds:List fV}{F:Fo}(h:pR ds v F=true):F.jL/\∀x,F.has x->0<=x/\x<v:=by
 unfold pR at h;simp only[ak]at h;have:=EC h.2;clear h
 induction F with
 |nil=>exact⟨trivial,λ_ h=>h.elim⟩
 |cons a n k r _ f=>
  obtain⟨e,_,g⟩:=wC (this ⟨a,n,k⟩ (by unfold Fo.list;exact aO));obtain⟨r1,r2⟩:=f λt i=>this t (by unfold Fo.list;exact aS _ i);refine⟨⟨e.1,e.2.1,r1⟩,λx b=> ?_⟩;unfold Fo.has at b;have c:=g x;unfold Nd.one Fo.has at c
  split at b
  ·rename_i d;rw[aq d]at c;rcases b with b|b
   ·exact c (.inl b)
   ·exact r2 x b
  ·rename_i d;rw[ah d]at c;rcases b with b|b
   ·exact c (.inl b)
   ·exact r2 x b
theorem L8:∀(l:List Da) (d:Nat) (n:Int),(∀x∈l,∀F∈x.cons,F.jL/\∀y,F.has y->0<=y/\y<x.params)->(gH l d n).2.2.jL/\∀x,(gH l d n).2.2.has x->0<=x/\x.toNat<(gH l d n).2.1.toNat
 |[],_,_,_=>⟨trivial,λ_ h=>h.elim⟩
 |x::l,d,n,h=>by
  unfold gH
  split
  ·cases a:x.cons[n.toNat]? with
   |none=>exact⟨trivial,λ_ h=>h.elim⟩
   |some F=>
    obtain⟨b,c⟩:=h x aO F (List.mem_of_getElem? a);exact⟨b,λy hy=>by have:=c y hy;exact⟨this.1,by simp only;omega⟩⟩
  ·exact L8 l (d+1) _ λy hy=>h y (aS _ hy)
theorem vA{ds:List fV}(h:dg ds=true):∀d∈ds,∀F∈d.cons,pR ds d.params F=true:=by
 rw[<-q_]at h;unfold oT at h;simp only[ak,aK]at h;intro d a F hF;have hp:=h.1.1.2 d a;unfold gM at hp;simp only[ak,decide_eq_true_eq]at hp;rw[<-L6 (by omega) (by omega)];exact h.1.2 d a F hF
theorem Hz{m:Md}(h:dg m.bH=true)(types:List Nd)(l:List Int):xY (kn m types l):=λn=>by
 refine L8 _ 0 n λx a F hF=> ?_;obtain⟨d,b,rfl⟩:=aN.1 a;exact Jy (vA h d b F hF)
theorem ec{m:Md}(h:iy m=true):dg m.bH=true/\ez m.prog=true/\fB m.bH=dx m.prog.sig.cons:=by
 unfold iy at h;simp only[ak,decide_eq_true_eq]at h;exact⟨h.1.1,h.1.2,h.2⟩
theorem vB{f:Nat}:(f:Int)∈cX l↔f∈l:=by
 unfold cX;rw[aN];constructor
 ·rintro⟨x,a,e⟩;have:x=f:=by omega
  exact this ▸ a
 ·exact λh=>⟨f,h,rfl⟩
theorem ni{x:Int}(h:x∈cX l):∃f∈l,x=(f:Int):=by
 unfold cX at h;obtain⟨f,a,rfl⟩:=aN.1 h;exact⟨f,a,rfl⟩
theorem QN{m:Md}(h:iy m=true){types:List Nd}(i:l.Nodup)(hc:∀f∈l,∀j,j<m.prog.sig.bj.length->fg m.prog f j=true->j∈l\/(types[j]?.getD default).ok):CC (kn m types (cX l)) m (cX l):=by
 obtain⟨o,d,_⟩:=ec h;refine⟨Hz o _ _,λr hr=> ?_,?_,λf c=> ?_⟩
 ·unfold qQ at hr;obtain⟨hr,p⟩:=List.mem_filter.1 hr;have hi:=mW d r hr;have q:=bh.1 p;obtain⟨f,c,Jh⟩:=ni q;constructor
  ·have:∀F:Fo,(∀t∈F.list,dq m.prog.sig t=true/\ew iG t=true)->CB (kn m types (cX l)) F:=by
    intro F
    induction F with
    |nil=>exact λ_=>⟨trivial,trivial⟩
    |cons a n k r _ s=>
     intro g;have hr:=s λt u=>g t (by unfold Fo.list;exact aS _ u);obtain⟨t1,t2⟩:=g ⟨a,n,k⟩ (by unfold Fo.list;exact aO);have G:=Df (C:=kn m types (cX l)) (kD t1) λf _ kH=>by
      rw[qZ (vz t2)]at kH;cases kH
     exact⟨⟨G.lets.1,G.lets.2.1,hr.lets⟩,⟨G.fns.1,G.fns.2.1,hr.fns⟩⟩
   exact this _ hi.bT
  ·refine Df (kD hi.rhs) λj g kH=> ?_;have he:vh m.prog f j=true:=by
    exact aoi
   rcases hc f c j g (B3 d he)with G|G
   ·exact .inl (bh.2 (vB.2 G))
   ·exact .inr G
 ·unfold cX;exact List.Pairwise.map _ (λa b G e=>G (by omega)) i
 ·obtain⟨x,_,rfl⟩:=ni c;omega
inductive Um where
 |ok (types:List Nd):Um
 |rp (l:List Nat):Um
 |px (l:List Nat):Um
def k9(types:List Nd):List Nat->List Nd->List Nd
 |[],_=>types
 |f::l,ts=>k9 (types.set f (ts.headD default)) l ts.tail
def OM(P:Bool)(m:Md):List (List Nat)->List Nd->Um
 |[],types=>.ok types
 |l::gs,types=>match oe P m types (cX l)with
  | .ok ts=>OM P m gs (k9 types l ts)
  | .rp=>.rp l
  | .px=>.px l
def vC(P:Bool)(m:Md):Um:=OM P m (eA m.prog) (List.replicate m.prog.sig.bj.length default)
theorem Fg:∀(l:List Nat) (types ts:List Nd),(k9 types l ts).length=types.length
 |[],_,_=>rfl
 |f::l,types,ts=>by unfold k9;rw[Fg l];simp
theorem tq:∀(l:List Nat) (types ts:List Nd) (j:Nat),j ∉ l->(k9 types l ts)[j]? =types[j]?
 |[],_,_,_,_=>rfl
 |f::l,types,ts,j,h=>by
  unfold k9;rw[tq l _ _ j λa=>h (aS _ a),List.getElem?_set];rw[ah λe=>h (by subst e;exact aO)]
theorem H_:∀(l:List Nat) (types ts:List Nd) (j:Nat),l.Nodup->j∈l->j<types.length->ts.length=l.length->(k9 types l ts)[j]? =ts[l.idxOf j]?
 |[],_,_,_,_,h,_,_=>by cases h
 |f::l,types,[],j,_,_,_,a=>by simp at a
 |f::l,types,t::ts,j,d,h,c,a=>by
  unfold k9;obtain⟨g,i⟩:=List.nodup_cons.1 d;by_cases b:f=j
  ·subst b;rw[tq _ _ _ _ g];simp[List.getElem?_set,c]
  ·have k:j∈l:=by
    rcases aE.1 h with e|h
    ·exact ay e.symm b
    ·exact h
   rw[H_ l _ _ j i k (by simpa using c) (by simpa using a)];simp only[List.tail_cons,List.idxOf_cons];rw[beq_eq_false_iff_ne.2 b];rfl
theorem ahM(h:xU S){v:Vx}(a:v.to=none)(hp:∀p∈v.parts,p<S.g.length)(b:dQ v=true->v.parts=[])(c:v.sort≠1):dY S (Nw S v).1/\(Nw S v).2<(Nw S v).1.g.length:=
 ⟨dY.add h a hp b c,by show S.g.length<(S.g++[v]).length;rw[dS];omega⟩
theorem Ia(h:xU S):dY S (bP S).1/\(bP S).2<(bP S).1.g.length:=ahM h rfl (λp hp=>by cases hp) (λ_=>rfl) (by decide)
theorem L9(h:xU S){sort:Int}{parts:List Nat}(hp:∀p∈parts,p<S.g.length)(a:sort≠0)(b:sort≠1):dY S (gQ S sort n parts).1/\(gQ S sort n parts).2<(gQ S sort n parts).1.g.length:=
 ahM h rfl hp (λe=>ay e (by unfold dQ;simpa using a)) b
theorem eqL(h:xU S)(d:a<S.g.length)(f:b<S.g.length)(e:wN S a b=some (S',u)):dY S S':=by
 unfold wN at e;cases he:T3 S.g a b with
 |none=>rw[he]at e;cases e
 |some g=>
  rw[he]at e;cases e;obtain⟨i,c,_⟩:=h.good.eq d f he;exact⟨⟨i,λy m e=>by show m<g.length;rw[c];exact h.env y m e,λu hu m hm=>by show m<g.length;rw[c];exact h.us u hu m hm⟩,by show S.g.length<=g.length;omega,λ_ _ e=>e,[],by simp⟩
theorem ahN(h:xU S){f:Nat}(j:f<S.g.length)(k:a<S.g.length)(e:zz S f a=some (S',m)):dY S S'/\m<S'.g.length:=by
 unfold zz at e;obtain⟨b,g⟩:=Ia h;have l:=b.len;obtain⟨c,i⟩:=L9 b.low (sort:=3) (n:=0) (parts:=[a,(bP S).2]) (λp hp=>by
  simp only[aE,List.not_mem_nil,or_false]at hp;rcases hp with rfl|rfl
  ·omega
  ·exact g) (by decide) (by decide)
 have o:=c.len;cases he:wN (gQ (bP S).1 3 0 [a,(bP S).2]).1 f (gQ (bP S).1 3 0 [a,(bP S).2]).2 with
 |none=>rw[he]at e;cases e
 |some q=>
  obtain⟨r,u⟩:=q;rw[he]at e;cases e;have d:=eqL c.low (by omega) i he;exact⟨(b.trans c).trans d,by have:=d.len;omega⟩
theorem Jz:∀(k:Nat) {S:Ck},xU S->dY S (b9 k S).1/\∀p∈(b9 k S).2,p<(b9 k S).1.g.length
 |0,_,h=>⟨dY.refl h,λp hp=>by cases hp⟩
 |k+1,_,h=>by
  obtain⟨a,c⟩:=Ia h;obtain⟨b,d⟩:=Jz k a.low;refine⟨a.trans b,λp hp=> ?_⟩;rcases aE.1 hp with rfl|hp
  ·exact aC c b.len
  ·exact d p hp
theorem SS:∀(F:Fo) {g:Gr} {ps:List Nat},Good g->(∀p∈ps,p<g.length)->F.jL->(∀x,F.has x->x.toNat<ps.length)->
 Good (dO l7 F g ps).1.1/\(dO l7 F g ps).1.2=ps/\g.length<=(dO l7 F g ps).1.1.length/\∀p∈(dO l7 F g ps).2,p<(dO l7 F g ps).1.1.length
 | .nil,_,_,h,_,_,_=>⟨h,rfl,lR,λp hp=>by cases hp⟩
 | .cons a n k r,g,ps,h,hp,f,c=>by
  rw[p8];unfold Fo.has at c;by_cases i:a=1
  ·simp only[aq i]at c |-;have m:=c n (.inl rfl);have e:l7 g ps n=((g,ps),ps[n.toNat]?.getD 0):=by
    unfold l7;rw[show n.toNat+1-ps.length=0 by omega];rfl
   rw[e];obtain⟨g1,d,j,l⟩:=SS r h hp f.2.2 λx h=>c x (.inr h);refine⟨g1,d,j,λp b=> ?_⟩;rcases aE.1 b with rfl|b
   ·refine aC (hp _ ?_) j;rw[ae m];exact aR _
   ·exact l p b
  ·simp only[ah i]at c |-;obtain⟨g1,d,j,l⟩:=SS k h hp f.2.1 λx h=>c x (.inl h);have m:dQ ⟨a,n,(dO l7 k g ps).2,none⟩=false:=by unfold dQ;simpa using f.1
   obtain⟨g2,o,q,s⟩:=SS r (g:=(dO l7 k g ps).1.1++[⟨a,n,(dO l7 k g ps).2,none⟩]) (ps:=(dO l7 k g ps).1.2) (g1.add rfl l (λe=>by rw[m]at e;cases e) i) (λp b=>by
    rw[d]at b;rw[dS];have:=hp p b;omega) f.2.2 (by rw[d];exact λx h=>c x (.inr h))
   rw[dS]at q;refine⟨g2,o.trans d,by omega,λp b=> ?_⟩;rcases aE.1 b with rfl|b
   ·omega
   ·exact s p b
theorem ON(h:xU S){F:Fo}{ps:List Nat}(hF:F.jL)(b:∀x,F.has x->x.toNat<ps.length)(hp:∀p∈ps,p<S.g.length):dY S (jW S F ps).1/\∀p∈(jW S F ps).2,p<(jW S F ps).1.g.length:=by
 obtain⟨g1,_,a,c⟩:=SS F h.good hp hF b;exact⟨⟨⟨g1,λy m e=>aC (h.env y m e) a,λu hu m hm=>aC (h.us u hu m hm) a⟩,a,λ_ _ e=>e,[],by show S.us=S.us++[];simp⟩,c⟩
theorem ahO(h:xU S){T:Nd}(d:T.ok):dY S (er S T).1/\(er S T).2.1<(er S T).1.g.length/\∀p∈(er S T).2.2,p<(er S T).1.g.length:=by
 obtain⟨a,b⟩:=Jz T.i_ h;obtain⟨c,e⟩:=ON a.low (F:=T.one) (ps:=(b9 T.i_ S).2) d.jL (λx f=>by rw[jS,<-Nd.nz];exact Fo.nA _ _ f) b;refine⟨a.trans c,?_,λp hp=>aC (b p hp) c.len⟩;obtain⟨m,hm⟩:=C5 l7 T (b9 T.i_ S).1.g (b9 T.i_ S).2;have hm:(jW (b9 T.i_ S).1 T.one (b9 T.i_ S).2).2=[m]:=hm;show(jW (b9 T.i_ S).1 T.one (b9 T.i_ S).2).2.headD 0<_;rw[hm];exact e m (by rw[hm];exact aJ.2 rfl)
theorem WX{C:Kn}(h:Ok C S)(c:Nat)(b:A5 C f):dY S (jd er C S c f).1/\(jd er C S c f).2<(jd er C S c f).1.g.length:=by
 unfold jd;by_cases a:C.own f=true
 ·rw[aq a];obtain⟨_,m,e⟩:=h.own f a;refine⟨dY.refl h.low,?_⟩;show(look S.env (-1-f)).getD 0<S.g.length;rw[e];exact h.low.env _ _ e
 ·rw[ah a];obtain⟨l,d,g⟩:=ahO h.low (b.resolve_left a);obtain⟨us,hu⟩:=l.us;refine⟨⟨⟨l.low.good,l.low.env,λu hu m hm=> ?_⟩,l.len,l.env,us++[(c,f,(er S (lf C f)).2.2)],?_⟩,d⟩
  ·rcases aQ.1 hu with hu|hu
   ·exact l.low.us u hu m hm
   ·cases aJ.1 hu;exact g m hm
  ·show(er S (lf C f)).1.us++_=_;rw[hu,aG]
theorem ahP(h:xU S)(n:Int):dY S (me S n).1/\(me S n).2<(me S n).1.g.length:=by
 unfold me;cases e:look S.env n with
 |some m=>exact⟨dY.refl h,h.env _ _ e⟩
 |none=>
  obtain⟨l,b⟩:=Ia h;refine⟨⟨⟨l.low.good,λy m hy=> ?_,l.low.us⟩,l.len,λy m hy=> ?_,l.us⟩,b⟩
  ·have hy:look ((n,S.g.length)::S.env) y=some m:=hy;rw[dn]at hy
   split at hy
   ·cases hy;exact b
   ·exact l.low.env y m hy
  ·show look ((n,S.g.length)::S.env) y=some m;rw[dn,ah λa=>by rw[a,hy]at e;cases e];exact hy
def tt(C:Kn)(p:oM):Prop:=∀c S S' m,Ok C S->p c S=some (S',m)->dY S S'/\m<S'.g.length
def KsL(C:Kn)(ks:List (Nat×oM)):Prop:=∀q∈ks,tt C q.2
theorem cI{α β:Type}{r:Option (Ck×α)}{q:Ck->α->Option (Ck×β)}{p:Ck×β}(h:eG r q=some p):∃b a,r=some (b,a)/\q b a=some p:=by
 unfold eG at h;cases r with
 |none=>cases h
 |some x=>exact⟨x.1,x.2,rfl,h⟩
theorem QO{C:Kn}:∀{ks:List (Nat×oM)},KsL C ks->∀{ws:List Nat} {c:Nat} {S S':Ck} {u:Unit},Ok C S->(∀w∈ws,w<S.g.length)->nB ks ws c S=some (S',u)->dY S S'
 |[],_,[],_,S,_,_,b,_,h=>by cases h;exact dY.refl b.low
 |[],_,_::_,_,_,_,_,_,_,h=>by cases h
 |_::_,_,[],_,_,_,_,_,_,h=>by cases h
 |(z,p)::ks,e,w::ws,c,S,S',u,b,hw,h=>by
  unfold nB at h;obtain⟨m,a,f,h⟩:=cI h;obtain⟨S2,n,g,h⟩:=cI h;obtain⟨d,i⟩:=e (z,p) aO _ _ _ _ b f;have j:=eqL d.low i (aC (hw w aO) d.len) g;have l:=d.trans j;exact l.trans (QO (λq k=>e q (aS _ k)) (b.later l) (λw h=>aC (hw w (aS _ h)) l.len) h)
theorem QP{C:Kn}:∀{ks:List (Nat×oM)},KsL C ks->∀{f c:Nat} {S S':Ck} {m:Nat},Ok C S->f<S.g.length->nC ks f c S=some (S',m)->dY S S'/\m<S'.g.length
 |[],_,_,_,S,_,_,b,d,h=>by cases h;exact⟨dY.refl b.low,d⟩
 |(z,p)::ks,g,f,c,S,S',u,b,d,h=>by
  unfold nC at h;obtain⟨v,a,i,h⟩:=cI h;obtain⟨S2,w,j,h⟩:=cI h;obtain⟨e,k⟩:=g (z,p) aO _ _ _ _ b i;obtain⟨n,o⟩:=ahN e.low (aC d e.len) k j;have l:=e.trans n;obtain⟨r,s⟩:=QP (λq t=>g q (aS _ t)) (b.later l) o h;exact⟨l.trans r,s⟩
theorem JA:∀{l:List (Option (Int×Int))},(∀o∈l,A6 o)->∀{S:Ck},xU S->dY S (nq l S).1/\∀p∈(nq l S).2,p<(nq l S).1.g.length
 |[],_,S,h=>⟨dY.refl h,λp hp=>by cases hp⟩
 |o::l,a,S,h=>by
  have b:dY S (BL S o).1/\(BL S o).2<(BL S o).1.g.length:=by
   cases o with
   |none=>exact Ia h
   |some q=>exact L9 h (λp hp=>by cases hp) (a _ aO q rfl).1 (a _ aO q rfl).2
  obtain⟨c,d⟩:=JA (λx e=>a x (aS _ e)) b.1.low;refine⟨b.1.trans c,λp hp=> ?_⟩;rcases aE.1 hp with rfl|hp
  ·exact aC b.2 c.len
  ·exact d p hp
theorem SU{C:Kn}{ks:List (Nat×oM)}(l:KsL C ks){pre post:List (Option (Int×Int))}{want:List Nat}{ret:Nat}(n:∀o∈pre,A6 o)(p:∀o∈post,A6 o)(hw:∀i∈want,i<pre.length)(q:ret<pre.length+post.length):tt C (qG pre want post ret ks):=λc S S' m g h=>by
 unfold qG at h;obtain⟨v,ns,r,h⟩:=cI h;obtain⟨S2,u,s,h⟩:=cI h;obtain⟨x,ms,t,h⟩:=cI h;cases h;obtain⟨a,b⟩:=JA n g.low;have d:=xV pre S;rw[Option.some.inj r]at a b d;have e:=QO l (g.later a) (λw hm=>by
  obtain⟨i,hi,rfl⟩:=aN.1 hm;exact b _ (Kt (by rw[d];exact hw i hi))) s
 obtain⟨f,j⟩:=JA p e.low;have k:=xV post S2;rw[Option.some.inj t]at f j k;refine⟨(a.trans e).trans f,?_⟩;have:=Kt (ns:=ns++ms) (i:=ret) (by rw[az,d,k];exact q);rcases aQ.1 this with h|h
 ·exact aC (b _ h) (e.trans f).len
 ·exact j _ h
theorem ahQ{C:Kn}{ks:List (Nat×oM)}(j:KsL C ks)(F:0<=n):tt C (UG n ks):=λc S S' m k h=>by
 unfold UG at h
 split at h
 case h_2=>cases h
 rename_i z p z2 q;obtain⟨d,a,o,h⟩:=cI h;obtain⟨S2,b,r,h⟩:=cI h;cases h;obtain⟨g,s⟩:=j (z,p) aO _ _ _ _ k o;have t:=k.later g;have low:xU { d with env:=(n,a)::d.env}:=⟨g.low.good,λy m hy=>by
  have hy:look ((n,a)::d.env) y=some m:=hy;rw[dn]at hy
  split at hy
  ·cases hy;exact s
  ·exact g.low.env y m hy,g.low.us⟩
 obtain⟨i,u⟩:=j (z2,q) (aS _ aO) _ _ _ _ (⟨low,λf v=>by
  obtain⟨w,m,e⟩:=t.own f v;exact⟨w,m,by show look ((n,a)::d.env) _=_;rw[dn,ah (by omega)];exact e⟩⟩:Ok C { d with env:=(n,a)::d.env}) r
 have l:d.g.length<=S2.g.length:=i.len;have x:∀y m,y≠n->look d.env y=some m->look S2.env y=some m:=λy m hy e=>i.env y m (by show look ((n,a)::d.env) _=_;rw[dn,ah (Ne.symm hy)];exact e);refine⟨⟨⟨i.low.good,λy m hy=> ?_,i.low.us⟩,ai g.len l,λy m hy=> ?_,?_⟩,u⟩
 ·have hy:look (GH d.env n S2.env) y=some m:=hy;rw[A7]at hy
  split at hy
  ·exact aC (g.low.env _ _ hy) l
  ·exact i.low.env y m hy
 ·show look (GH d.env n S2.env) y=some m;rw[A7];have hy:=g.env y m hy
  split
  ·rename_i e;rw[<-e];exact hy
  ·rename_i e;exact x y m e hy
 ·obtain⟨A,B⟩:=g.us;obtain⟨D,E⟩:=i.us;exact⟨A++D,by show S2.us=_;rw[E,<-aG,<-B]⟩
theorem WY{C:Kn}(y:xY C){a:Int}{ks:List (Nat×oM)}(e:KsL C ks)(hC:a=4\/a=5->A5 C n)(A:a=8->0<=n):tt C (xW true er C a n ks):=by
 have hB:=UH;have hI:=UI;have o:=UJ;unfold xW;refine iteInduction (motive:=tt C) (λb=> ?_) (λ_=> ?_)
 ·intro c S S' m d h;have v:=ahP d.low n;rw[Option.some.inj h]at v;exact v
 refine iteInduction (motive:=tt C) (λb=> ?_) (λ_=> ?_)
 ·intro c S S' m d h;have v:=L9 d.low (sort:=2) (n:=0) (parts:=[]) (λp hp=>by cases hp) (by decide) (by decide);rw[Option.some.inj h]at v;exact v
 refine iteInduction (motive:=tt C) (λb=> ?_) (λ_=> ?_)
 ·intro c S S' m d h;obtain⟨B,D⟩:=y n;unfold UE at h;obtain⟨t,ps,l,h⟩:=cI h;obtain⟨S2,ws,E,h⟩:=cI h;rw[aq rfl]at h;unfold GG at h;obtain⟨I,u,F,h⟩:=cI h;cases h;obtain⟨g,i⟩:=Jz (gH C.bH 0 n).2.1.toNat d.low;have w:=jS (gH C.bH 0 n).2.1.toNat S;rw[Option.some.inj l]at g i w;obtain⟨j,k⟩:=ON g.low B (λx r=>by rw[w];exact(D x r).2) i;rw[Option.some.inj E]at j k;have s:=QO e (d.later (g.trans j)) k F;obtain⟨G,H⟩:=L9 s.low (sort:=4) (n:=((gH C.bH 0 n).1:Nat)) (parts:=ps) (λp hp=>aC (i p hp) (j.trans s).len) (by decide) (by decide);exact⟨((g.trans j).trans s).trans G,H⟩
 refine iteInduction (motive:=tt C) (λb=> ?_) (λ_=> ?_)
 ·intro c S S' m d h;unfold UF at h;obtain⟨t,f,l,h⟩:=cI h;obtain⟨g,i⟩:=WX d c (hC b);rw[Option.some.inj l]at g i;obtain⟨j,k⟩:=QP e (d.later g) i h;exact⟨g.trans j,k⟩
 refine iteInduction (motive:=tt C) (λb=> ?_) (λ_=> ?_)
 ·intro c S S' m d h;unfold IT at h
  split at h
  case h_2=>cases h
  rename_i z p q;obtain⟨t,f,l,h⟩:=cI h;obtain⟨g,i⟩:=e (z,p) aO _ _ _ _ d l;obtain⟨j,k⟩:=QP (ks:=[q]) (λx r=>by cases aJ.1 r;exact e q (aS _ aO)) (d.later g) i h;exact⟨g.trans j,k⟩
 refine iteInduction (motive:=tt C) (λb=> ?_) (λ_=> ?_)
 ·exact SU e (by simp[o]) (by simp) (by simp) (by simp)
 refine iteInduction (motive:=tt C) (λb=> ?_) (λ_=> ?_)
 ·exact ahQ e (A b)
 refine iteInduction (motive:=tt C) (λb=> ?_) (λ_=> ?_)
 ·exact SU e (by simp[o,hB]) (by simp) (by simp) (by simp)
 refine iteInduction (motive:=tt C) (λb=> ?_) (λ_=> ?_)
 ·rw[aq rfl];exact SU e (by simp[hB]) (by simp[hB]) (by simp) (by simp)
 refine iteInduction (motive:=tt C) (λb=> ?_) (λ_=> ?_)
 ·rw[aq rfl];exact SU e (by simp[o]) (by simp[hB]) (by simp) (by simp)
 refine iteInduction (motive:=tt C) (λb=> ?_) (λ_=> ?_)
 ·rw[aq rfl];exact SU e (by simp[hI]) (by simp[hI]) (by simp) (by simp)
 refine iteInduction (motive:=tt C) (λb=> ?_) (λ_=> ?_)
 ·rw[aq rfl];exact SU e (by simp[hI]) (by simp[hI,hB]) (by simp) (by simp)
 ·intro c S S' m d h;cases h
theorem WZ{C:Kn}(b:xY C):∀(F:Fo),F.lets->F.fns (A5 C)->KsL C (rM true er C F)
 | .nil,_,_=>λq a=>by cases a
 | .cons _ _ k r,h,g=>λq a=>by
  rcases aE.1 a with rfl|a
  ·exact WY b (WZ b k h.2.1 g.2.1) g.1 h.1
  ·exact WZ b r h.2.2 g.2.2 q a
theorem CB.ksL{C:Kn}{F:Fo}(h:CB C F)(hc:xY C):KsL C (rM true er C F):=WZ hc F h.lets (Fo.pw (λ_ h=>h.2) F h.fns)
theorem CB.WY{C:Kn}{t:Nd}(h:CB C t.one)(hc:xY C):tt C (xW true er C t.a t.n (rM true er C t.k)):=h.ksL hc (1+t.k.size,xW true er C t.a t.n (rM true er C t.k)) (show _∈(1+t.k.size,xW true er C t.a t.n (rM true er C t.k))::rM true er C .nil from aO)
theorem ac4{C:Kn}{ps:List (Nat×oM)}{rhs:oM}(hp:KsL C ps)(k:tt C rhs)(a:Ok C S)(o:C.own f=true)(h:tQ [] ps rhs true f c S=some (S',u)):dY S S':=by
 unfold tQ C6 at h
 split at h
 case h_1=>cases h
 rename_i S2 t d;cases h;unfold Ku at d;obtain⟨v,out,g,p⟩:=cI d;obtain⟨w,n,q,i⟩:=cI p;rw[aq rfl]at i;obtain⟨_,m,e⟩:=a.own f o;rw[e]at g;obtain⟨j,r⟩:=QP hp (S:=S) a (a.low.env _ _ e) g;obtain⟨b,s⟩:=k _ _ _ _ (a.later j) q;have l:=(j.trans b).trans (eqL b.low s (aC r b.len) i);exact⟨⟨l.low.good,λy m e=>aC (a.low.env y m e) l.len,l.low.us⟩,l.len,λ_ _ e=>e,l.us⟩
theorem W8{C:Kn}:∀(l:List (Ru×Y8)) {c:Nat} {S S':Ck} {u:Unit},(∀r∈l,KsL C r.2.ps/\tt C r.2.rhs/\C.own r.1.f=true)->Ok C S->mf [] true l c S=some (S',u)->dY S S'
 |[],_,_,_,_,_,a,h=>by cases h;exact dY.refl a.low
 |(r,q)::l,c,S,S',u,b,a,h=>by
  unfold mf at h;obtain⟨f,a2,a3⟩:=b (r,q) aO;cases e:tQ [] q.ps q.rhs true r.f c S with
  |none=>rw[e]at h;cases h
  |some x=>
   rw[e]at h;have d:=ac4 f a2 a a3 e;exact d.trans (W8 l (λr g=>b r (aS _ g)) (a.later d) h)
theorem QQ:∀(k:Nat) {S:Ck} {n:Nat},xU S->n<S.g.length->dY S (d_ k S n).1/\(d_ k S n).2<(d_ k S n).1.g.length
 |0,_,_,h,a=>⟨dY.refl h,a⟩
 |k+1,S,n,h,a=>by
  obtain⟨b,d⟩:=Ia h;obtain⟨c,e⟩:=L9 b.low (sort:=3) (n:=0) (parts:=[(bP S).2,n]) (λp hp=>by
   simp only[aE,List.not_mem_nil,or_false]at hp;rcases hp with rfl|rfl
   ·exact d
   ·exact aC a b.len) (by decide) (by decide)
  obtain⟨f,g⟩:=QQ k c.low e;exact⟨(b.trans c).trans f,g⟩
theorem W_:∀(l:List (Int×Nat)) {S S':Ck} {u:Unit},xU S->(l.map (·.1)).Nodup->(∀q∈l,look S.env (-1-q.1)=none)->tR true l S=some (S',u)->dY S S'
 |[],_,_,_,h,_,_,e=>by cases e;exact dY.refl h
 |(f,k)::l,S,S',u,h,a,b,e=>by
  unfold tR at e;rw[bz,List.nodup_cons]at a;obtain⟨c,i⟩:=Ia h;obtain⟨j,n⟩:=QQ k c.low i;have o:=b (f,k) aO;have he:(d_ k (bP S).1 (bP S).2).1.env=S.env:=(mN k (bP S).1 (bP S).2).2;have d:dY S { (d_ k (bP S).1 (bP S).2).1 with env:=(-1-f,(d_ k (bP S).1 (bP S).2).2)::(d_ k (bP S).1 (bP S).2).1.env}:=by
   have l:=c.trans j;refine⟨⟨l.low.good,λy m hy=> ?_,l.low.us⟩,l.len,λy m hy=> ?_,l.us⟩
   ·have hy:look ((-1-f,(d_ k (bP S).1 (bP S).2).2)::(d_ k (bP S).1 (bP S).2).1.env) y=some m:=hy;rw[dn]at hy
    split at hy
    ·cases hy;exact n
    ·exact l.low.env y m hy
   ·show look ((-1-f,_)::(d_ k (bP S).1 (bP S).2).1.env) y=some m;rw[dn,he,ah λe=>by rw[<-e,o]at hy;cases hy];exact hy
  refine d.trans (W_ l d.low a.2 (λq g=> ?_) e);show look ((-1-f,_)::(d_ k (bP S).1 (bP S).2).1.env) _=_;rw[dn,he,ah λe=>a.1 (by rw[show f=q.1 by omega];exact aN.2 ⟨q,g,rfl⟩)];exact b q (aS _ g)
section group
variable {m:Md} {types:List Nd} {l:List Int}
theorem Xa(h:CC (kn m types l) m l)(e:od true m types l=some S):xU S/\(∀f∈l,hO S f<S.g.length)/\Trees S.g (iP S.g):=by
 unfold od Nx at e;cases d:tR true (l.map λf=>(f,mg m f)) gX with
 |none=>rw[d]at e;cases e
 |some x=>
  obtain⟨j,v⟩:=x;rw[d]at e;simp only at e;have p:=W_ _ rN (Ky h) (λq k=>rfl) d;have keys:=DW true _ d;have s:Ok (kn m types l) j:=⟨p.low,λf g=>by
   obtain⟨b,q,k,e⟩:=(Ny h f).1 g;exact⟨b,(keys (-1-f)).2 (.inr ⟨q,k,by rw[e]⟩)⟩⟩
  cases i:mf (IV true) true ((qQ m l).map (sE true (kn m types l))) 0 j with
  |none=>rw[i]at e;cases e
  |some x=>
   obtain⟨S2,w⟩:=x;rw[i]at e;simp only at e;have a:=W8 (C:=kn m types l) _ (λr u=>by
    obtain⟨o,b,rfl⟩:=aN.1 u;have c:=h.rules o b;refine⟨c.bT.ksL h.con,CB.WY (t:=o.rhs) c.rhs h.con,?_⟩;exact(List.mem_filter.1 b).2) s i
   cases c:eX S2.g with
   |none=>rw[c]at e;cases e
   |some st=>
    rw[c]at e;cases e;refine⟨a.low,λf g=> ?_,uJ a.low.good.wf (xT a.low.good.wf c)⟩;obtain⟨n,b⟩:=(keys (-1-f)).2 (.inr ⟨(f,mg m f),aN.2 ⟨f,g,rfl⟩,rfl⟩);have b:=a.env _ _ b;unfold hO;rw[b];exact a.low.env _ _ b
theorem L_(h:CC (kn m types l) m l){ts:List Nd}(e:oe true m types l=.ok ts):ts.length=l.length/\∀t∈ts,Read t:=by
 unfold oe at e;cases c:od true m types l with
 |none=>rw[c]at e;cases e
 |some S=>
  rw[c]at e;simp only at e;obtain⟨low,b,i⟩:=Xa h c;cases a:Kw S.g (l.map (hO S))with
  |none=>rw[a]at e;cases e
  |some us=>
   rw[a]at e;cases e;unfold Kw at a;rw[List.map_map]at a;obtain⟨j,k,_⟩:=Kz (λt d=>by
    obtain⟨f,g,rfl⟩:=aN.1 d;exact i.plain low.good _ (b f g)) (λt d=>by
    obtain⟨f,g,rfl⟩:=aN.1 d;exact i.jL low.good _ (b f g)) a
   rw[aW]at j;exact⟨j,k⟩
end group
def jq(p:Int->Prop)(g:Gr):Prop:=∀i,i<g.length->p (aX g i).sort/\(aX g i).parts.length<=1000
theorem jq.same{p:Int->Prop}{g':Gr}(h:jq p g)(b:g'.length=g.length)(a:∀i,(aX g' i).sort=(aX g i).sort/\(aX g' i).parts=(aX g i).parts):jq p g':=λi hi=>by rw[(a i).1,(a i).2];exact h i (by omega)
theorem jq.add{p:Int->Prop}(h:jq p g){v:Vx}(a:p v.sort)(b:v.parts.length<=1000):jq p (g++[v]):=λi hi=>by
 rw[dS]at hi;by_cases e:i=g.length
 ·subst e;rw[iO];exact⟨a,b⟩
 ·rw[dX g _ (by omega)];exact h i (by omega)
structure nu (S S':Ck) (z:Nat):Prop where
 wV:∀p:Int->Prop,p 0->p 2->p 3->p 4->jq p S.g->jq p S'.g
 len:S'.g.length<=S.g.length+z
 us:S'.us.length<=S.us.length+z
 neg:∀y,y<0->look S'.env y=look S.env y
theorem nu.refl(S:Ck)(z:Nat):nu S S z:=⟨λ_ _ _ _ _ h=>h,by omega,by omega,λ_ _=>rfl⟩
theorem nu.trans{d S2:Ck}(h:nu S d a)(h':nu d S2 b)(e:a+b<=c):nu S S2 c:=
 ⟨λp f g i j k=>h'.wV p f g i j (h.wV p f g i j k),by have:=h.len;have:=h'.len;omega,by have:=h.us;have:=h'.us;omega,λy hy=>(h'.neg y hy).trans (h.neg y hy)⟩
theorem nu.more{b:Ck}(h:nu S b a)(e:a<=c):nu S b c:=h.trans (nu.refl b 0) (by omega)
theorem QR(S:Ck){v:Vx}(a:v.sort=0\/v.sort=2\/v.sort=3\/v.sort=4)(b:v.parts.length<=1000):nu S (Nw S v).1 1:=
 ⟨λp d e f g c=>c.add (by rcases a with h|h|h|h<;>rw[h]<;>assumption) b,by show(S.g++[v]).length<=_;simp,by show S.us.length<=_;omega,λ_ _=>rfl⟩
theorem Aj(S:Ck):nu S (bP S).1 1:=QR S (.inl rfl) (aw _)
theorem rW(S:Ck){sort:Int}{parts:List Nat}(h:sort=2\/sort=3\/sort=4)(a:parts.length<=1000:=by first|(simp;done)|assumption):nu S (gQ S sort n parts).1 1:=QR S (.inr h) a
theorem JB:∀(k:Nat) (g:Gr) (a b:Nat) (g':Gr),DK k g a b=some g'->g'.length=g.length/\∀i,(aX g' i).sort=(aX g i).sort/\(aX g' i).parts=(aX g i).parts
 |0,_,_,_,_,h=>by cases h
 |k+1,g,a,b,g',h=>by
  have all:∀(l:List (Nat×Nat)) (g g':Gr),uE (DK k) g l=some g'->g'.length=g.length/\∀i,(aX g' i).sort=(aX g i).sort/\(aX g' i).parts=(aX g i).parts:=by
   intro l
   induction l with
   |nil=>intro g g' h;cases h;exact⟨rfl,λ_=>⟨rfl,rfl⟩⟩
   |cons q l d=>
    intro g g' h;obtain⟨x,y⟩:=q;unfold uE at h;cases he:DK k g x y with
    |none=>rw[he]at h;cases h
    |some g1=>
     rw[he]at h;obtain⟨c,s1⟩:=JB k g x y g1 he;obtain⟨e,s2⟩:=d g1 g' h;exact⟨e.trans c,λi=>⟨(s2 i).1.trans (s1 i).1,(s2 i).2.trans (s1 i).2⟩⟩
  have ls:∀x y,(link g x y).length=g.length/\∀i,(aX (link g x y) i).sort=(aX g i).sort/\(aX (link g x y) i).parts=(aX g i).parts:=λx y=>⟨dP g x y,λi=>⟨(lP g x y i).1,(lP g x y i).2.2⟩⟩;unfold DK at h
  split at h
  ·cases h;exact⟨rfl,λ_=>⟨rfl,rfl⟩⟩
  ·split at h
   ·cases h;exact ls _ _
   ·split at h
    ·cases h;exact ls _ _
    ·split at h
     ·cases h
     ·obtain⟨c,s1⟩:=all _ _ _ h;exact⟨c.trans (ls _ _).1,λi=>⟨(s1 i).1.trans ((ls _ _).2 i).1,(s1 i).2.trans ((ls _ _).2 i).2⟩⟩
theorem Ak(h:wN S a b=some (S',u)):nu S S' 0:=by
 unfold wN at h;cases he:T3 S.g a b with
 |none=>rw[he]at h;cases h
 |some g=>
  rw[he]at h;cases h;obtain⟨c,s1⟩:=JB _ _ _ _ _ he;exact⟨λp _ _ _ _ d=>d.same c s1,by show g.length<=_;omega,by show S.us.length<=_;omega,λ_ _=>rfl⟩
theorem JC{f n:Nat}(h:zz S f a=some (S',n)):nu S S' 2:=by
 unfold zz at h;cases he:wN (gQ (bP S).1 3 0 [a,(bP S).2]).1 f (gQ (bP S).1 3 0 [a,(bP S).2]).2 with
 |none=>rw[he]at h;cases h
 |some q=>
  rw[he]at h;cases h;exact((Aj S).trans (rW _ (.inr (.inl rfl))) lR).trans (Ak he) (by omega)
theorem Ma:∀(k:Nat) (g:Gr) (ps:List Nat),(lh k g ps).1.length=g.length+k/\∀p:Int->Prop,p 0->jq p g->jq p (lh k g ps).1
 |0,_,_=>⟨rfl,λ_ _ h=>h⟩
 |k+1,g,ps=>by
  obtain⟨b,c⟩:=Ma k (g++[⟨0,0,[],none⟩]) (ps++[g.length]);unfold lh;exact⟨by rw[b,dS];omega,λp a h=>c p a (h.add a (aw _))⟩
theorem wD{V:Type}{vf:Gr->V->Int->(Gr×V)×Nat}:∀(F:Fo) (g:Gr) (v:V),(dO vf F g v).2.length=F.len
 | .nil,_,_=>rfl
 | .cons a n k r,g,v=>by
  rw[p8]
  split
  ·show(_::_).length=_;rw[aD,wD r];rfl
  ·show(_::_).length=_;rw[aD,wD r];rfl
theorem wE:∀(F:Fo) (g:Gr) (ps:List Nat),(dO l7 F g ps).1.1.length+ps.length<=g.length+(dO l7 F g ps).1.2.length+F.size/\(F.nr->F.size<=1000->∀p:Int->Prop,p 0->p 2->p 3->p 4->jq p g->jq p (dO l7 F g ps).1.1)
 | .nil,g,ps=>⟨by show g.length+ps.length<=g.length+ps.length+0;omega,λ_ _ _ _ _ _ _ h=>h⟩
 | .cons a n k r,g,ps=>by
  rw[p8];unfold Fo.size Fo.nr;by_cases j:a=1
  ·rw[aq j];obtain⟨o,q⟩:=Ma (n.toNat+1-ps.length) g ps;have s:=Kr (n.toNat+1-ps.length) g ps;obtain⟨m,l⟩:=wE r (l7 g ps n).1.1 (l7 g ps n).1.2;have u:(l7 g ps n).1.1.length=g.length+(n.toNat+1-ps.length):=o;have v:(l7 g ps n).1.2.length=ps.length+(n.toNat+1-ps.length):=s;exact⟨by simp only;omega,λb t p c d f i hp=>l b.2.2 (by omega) p c d f i (q p c hp)⟩
  ·rw[ah j];obtain⟨q,o⟩:=wE k g ps;obtain⟨m,l⟩:=wE r ((dO l7 k g ps).1.1++[⟨a,n,(dO l7 k g ps).2,none⟩]) (dO l7 k g ps).1.2;rw[dS]at m;refine⟨by simp only;omega,λb t p c d f i hp=>l b.2.2 (by omega) p c d f i ((o b.2.1 (by omega) p c d f i hp).add ?_ (by show(dO l7 k g ps).2.length<=1000;rw[wD];have:=k.nE;omega))⟩;rcases b.1 with e|e|e|e
   ·exact ay e j
   ·show p a;rw[e];exact d
   ·show p a;rw[e];exact f
   ·show p a;rw[e];exact i
theorem kQ:∀(k:Nat) (S:Ck),nu S (b9 k S).1 k
 |0,S=>nu.refl S 0
 |k+1,S=>(Aj S).trans (kQ k (bP S).1) (by omega)
structure Nd.QS (T:Nd):Prop where
 size:T.size<=100
 i_:T.i_<=100
 nr:T.one.nr
theorem Nd.jr(T:Nd):T.one.size=T.size:=by
 have a:T.one.size=1+T.k.size+0:=rfl;have b:T.size=1+T.k.size:=rfl;omega
theorem BA(S:Ck){F:Fo}{ps:List Nat}(b:F.nr)(c:F.size<=1000)(d:∀x,F.has x->x.toNat<ps.length):nu S (jW S F ps).1 F.size:=by
 obtain⟨e,f⟩:=wE F S.g ps;rw[rL F S.g ps d]at e;exact⟨λp g a i j k=>f b c p g a i j k,by show(dO l7 F S.g ps).1.1.length<=_;omega,by show S.us.length<=_;omega,λ_ _=>rfl⟩
def Al(inst:Ck->Nd->Ck×(Nat×List Nat)):Prop:=∀S T,T.ok->T.QS->nu S (inst S T).1 200
theorem rX:Al er:=λS T e a=>by
 have b:=kQ T.i_ S;have c:=BA (b9 T.i_ S).1 (F:=T.one) (ps:=(b9 T.i_ S).2) a.nr (by have:=a.size;rw[Nd.jr];omega) λx d=>by rw[jS,<-Nd.nz];exact Fo.nA _ _ d
 exact b.trans c (by have:=a.i_;have:=a.size;rw[Nd.jr];omega)
def OO(z:Nat)(p:oM):Prop:=∀c S S' m,p c S=some (S',m)->nu S S' (1000*z-10)
def tW(ks:List (Nat×oM)):Prop:=∀q∈ks,1<=q.1/\OO q.1 q.2
def yE(ks:List (Nat×oM)):Nat:=(ks.map (·.1)).sum
theorem pd(q:Nat×oM)(ks:List (Nat×oM)):yE (q::ks)=q.1+yE ks:=by unfold yE;simp
theorem vD:∀{ks:List (Nat×oM)},tW ks->∀{ws:List Nat} {c:Nat} {S S':Ck} {u:Unit},nB ks ws c S=some (S',u)->nu S S' (1000*yE ks)
 |[],_,[],_,S,_,_,h=>by cases h;exact nu.refl _ _
 |[],_,_::_,_,_,_,_,h=>by cases h
 |_::_,_,[],_,_,_,_,h=>by cases h
 |(z,p)::ks,b,w::ws,c,S,S',u,h=>by
  unfold nB at h;obtain⟨i,a,d,h⟩:=cI h;obtain⟨S2,j,e,h⟩:=cI h;obtain⟨f,hp⟩:=b (z,p) aO;rw[pd];exact((hp _ _ _ _ d).trans (Ak e) lR).trans (vD (λq g=>b q (aS _ g)) h) (by simp only at f |-;omega)
theorem Am:∀{ks:List (Nat×oM)},tW ks->∀{f c:Nat} {S S':Ck} {m:Nat},nC ks f c S=some (S',m)->nu S S' (1000*yE ks)
 |[],_,_,_,S,_,_,h=>by cases h;exact nu.refl _ _
 |(z,p)::ks,b,f,c,S,S',u,h=>by
  unfold nC at h;obtain⟨j,a,d,h⟩:=cI h;obtain⟨S2,k,e,h⟩:=cI h;obtain⟨g,hp⟩:=b (z,p) aO;rw[pd];exact((hp _ _ _ _ d).trans (JC e) lR).trans (Am (λq i=>b q (aS _ i)) h) (by simp only at g |-;omega)
theorem Xb{o:Option (Int×Int)}(a:∀q,o=some q->q.1=2\/q.1=3\/q.1=4)(S:Ck):nu S (BL S o).1 1:=by
 cases o with
 |none=>exact Aj S
 |some q=>exact rW S (a q rfl)
theorem yF:∀{l:List (Option (Int×Int))},(∀o∈l,∀q,o=some q->q.1=2\/q.1=3\/q.1=4)->∀S:Ck,nu S (nq l S).1 l.length
 |[],_,S=>nu.refl S 0
 |o::l,a,S=>(Xb (a o aO) S).trans (yF (λx b=>a x (aS _ b)) _) (by simp;omega)
theorem nw{ks:List (Nat×oM)}(b:tW ks){pre post:List (Option (Int×Int))}{want:List Nat}{ret:Nat}(d:∀o∈pre,∀q,o=some q->q.1=2\/q.1=3\/q.1=4)(e:∀o∈post,∀q,o=some q->q.1=2\/q.1=3\/q.1=4)
    (h:qG pre want post ret ks c S=some (S',m)):nu S S' (1000*yE ks+(pre.length+post.length)):=by
 unfold qG at h;obtain⟨j,ns,f,h⟩:=cI h;obtain⟨S2,u,g,h⟩:=cI h;obtain⟨k,ms,i,h⟩:=cI h;cases h;have a:=yF d S;have a3:=yF e S2;rw[Option.some.inj f]at a;rw[Option.some.inj i]at a3;exact(a.trans (vD b g) lR).trans a3 (by omega)
def CZ(C:Kn)(f:Int):Prop:=C.own f=true\/((lf C f).ok/\(lf C f).QS)
structure QT (C:Kn):Prop where
 params:∀n,(gH C.bH 0 n).2.1.toNat<=100
 size:∀n,(gH C.bH 0 n).2.2.size<=400
 nr:∀n,(gH C.bH 0 n).2.2.nr
 low:∀n x,(gH C.bH 0 n).2.2.has x->x.toNat<(gH C.bH 0 n).2.1.toNat
theorem Ib{inst:Ck->Nd->Ck×(Nat×List Nat)}(hi:Al inst){C:Kn}(S:Ck)(c:Nat)(b:CZ C f):nu S (jd inst C S c f).1 201:=by
 unfold jd;by_cases a:C.own f=true
 ·rw[aq a];exact nu.refl S _
 ·rw[ah a];obtain⟨d,e⟩:=b.resolve_left a;have:=hi S (lf C f) d e;exact⟨this.wV,by have:=this.len;show(inst S (lf C f)).1.g.length<=_;omega,by have:=this.us;show((inst S (lf C f)).1.us++[_]).length<=_;rw[az,aY];omega,this.neg⟩
theorem QU(S:Ck)(c:0<=n):nu S (me S n).1 1:=by
 unfold me;cases h:look S.env n with
 |some m=>exact nu.refl S 1
 |none=>
  refine⟨λp a _ _ _ b=>b.add a (aw _),by show(S.g++[_]).length<=_;simp,by show S.us.length<=_;omega,λy hy=> ?_⟩;show look ((n,S.g.length)::S.env) y=_;rw[dn,ah (by omega)]
theorem aaL(x:0<=n){ks:List (Nat×oM)}(i:tW ks)(h:UG n ks c S=some (S',m)):nu S S' (1000*yE ks):=by
 unfold UG at h
 split at h
 ·rename_i z p z2 q;obtain⟨j,a,r,h⟩:=cI h;obtain⟨S2,b,s,h⟩:=cI h;cases h;obtain⟨t,hp⟩:=i (z,p) aO;obtain⟨z3,u⟩:=i (z2,q) (aS _ aO);have e:=hp _ _ _ _ r;have f:=u _ _ _ _ s;simp only at t z3;rw[pd,pd];refine⟨λp k d l o v=>f.wV p k d l o (e.wV p k d l o v),?_,?_,λy hy=> ?_⟩
  ·have w:=e.len;have g:=f.len;simp only at g |-;omega
  ·have w:=e.us;have g:=f.us;simp only at g |-;omega
  ·show look (GH j.env n S2.env) y=_;rw[A7,ah (by omega)];have:=f.neg y hy;rw[this];show look ((n,a)::j.env) y=_;rw[dn,ah (by omega)];exact e.neg y hy
 ·cases h
theorem SV{ks:List (Nat×oM)}(a:tW ks)(h:IT ks c S=some (S',m)):nu S S' (1000*yE ks):=by
 unfold IT at h
 split at h
 ·rename_i z p q;obtain⟨i,f,b,h⟩:=cI h;obtain⟨d,hp⟩:=a (z,p) aO;have e:=Am (ks:=[q]) (λx g=>a x (aS _ g)) h;rw[pd];exact(hp _ _ _ _ b).trans e (by simp only at d |-;omega)
 ·cases h
theorem Xc{d:Int}{ks:List (Nat×oM)}(f:tW ks){ps ws:List Nat}(P:Bool)(j:ps.length<=1000)(h:(if P then GG else PX) d ks c S ps ws=some (S',m)):nu S S' (1000*yE ks+1):=by
 cases P
 ·obtain⟨g,a,e,h⟩:=cI (show PX d ks c S ps ws=some (S',m)from h);obtain⟨S2,u,i,h⟩:=cI h;cases h;have b:=rW S (sort:=4) (n:=d) (parts:=ps) (.inr (.inr rfl));rw[Option.some.inj e]at b;exact b.trans (vD f i) (by omega)
 ·obtain⟨g,u,e,h⟩:=cI (show GG d ks c S ps ws=some (S',m)from h);have b:=rW g (sort:=4) (n:=d) (parts:=ps) (.inr (.inr rfl));rw[Option.some.inj h]at b;exact(vD f e).trans b lR
theorem aaM{params:Nat}{args:Fo}{ks:List (Nat×oM)}(e:tW ks){d:Int}(P:Bool)(f:params<=1000)(g:args.size<=1000)(i:args.nr)(j:∀x,args.has x->x.toNat<params)
 (h:UE params args ((if P then GG else PX) d ks c) S=some (S',m)):nu S S' (1000*yE ks+(params+args.size+1)):=by
 unfold UE at h;obtain⟨k,ps,l,h⟩:=cI h;obtain⟨S2,ws,n,h⟩:=cI h;have b:=kQ params S;have a:=jS params S;rw[Option.some.inj l]at b a;have a2:=BA k (F:=args) (ps:=ps) i g λx o=>by have:=j x o;simp only at a;omega
 rw[Option.some.inj n]at a2;exact(b.trans a2 lR).trans (Xc e P (by simp only at a;omega) h) (by omega)
theorem aaN{inst:Ck->Nd->Ck×(Nat×List Nat)}(hi:Al inst){C:Kn}(d:CZ C f){ks:List (Nat×oM)}(e:tW ks)(h:UF inst C f ks c S=some (S',m)):nu S S' (1000*yE ks+201):=by
 unfold UF at h;obtain⟨i,a,g,h⟩:=cI h;have b:=Ib hi S c d;rw[Option.some.inj g]at b;exact b.trans (Am e h) (by omega)
def Fo.pos:Fo->Prop
 | .nil=>True
 | .cons a n k r=>(a=1\/a=8->0<=n)/\k.pos/\r.pos
theorem QV{P:Bool}{inst:Ck->Nd->Ck×(Nat×List Nat)}(hi:Al inst){C:Kn}(hc:QT C){a:Int}{ks:List (Nat×oM)}(d:tW ks)(z:a=4\/a=5->CZ C n)(t:a=1\/a=8->0<=n):OO (1+yE ks) (xW P inst C a n ks):=by
 intro c S S' m h;have A:∀o∈([none]:List (Option (Int×Int))),∀q,o=some q->q.1=2\/q.1=3\/q.1=4:=by intro o k q e;simp at k;subst k;cases e
 have b:∀l:List (Option (Int×Int)),(∀o∈l,o=none\/o=lB\/o=lI)->∀o∈l,∀q,o=some q->q.1=2\/q.1=3\/q.1=4:=by
  intro l f o k q e;rcases f o k with h|h|h
  ·rw[h]at e;cases e
  ·rw[h]at e;cases e;exact .inr (.inr rfl)
  ·rw[h]at e;cases e;exact .inl rfl
 unfold xW at h;by_cases p:a=1
 ·rw[aq p]at h;have:=QU S (t (.inl p));rw[Option.some.inj h]at this;exact this.more (by omega)
 rw[ah p]at h;by_cases u:a=2
 ·rw[aq u]at h;have:=rW S (sort:=2) (n:=0) (parts:=[]) (.inl rfl);rw[Option.some.inj h]at this;exact this.more (by omega)
 rw[ah u]at h;by_cases v:a=3
 ·rw[aq v]at h;exact(aaM d P (by have:=hc.params n;omega) (by have:=hc.size n;omega) (hc.nr n) (hc.low n) h).more (by have:=hc.params n;have:=hc.size n;omega)
 rw[ah v]at h;by_cases r:a=4\/a=5
 ·rw[aq r]at h;exact(aaN hi (z r) d h).more (by omega)
 rw[ah r]at h;by_cases w:a=6
 ·rw[aq w]at h;exact(SV d h).more (by omega)
 rw[ah w]at h;by_cases x:a=7
 ·rw[aq x]at h;exact(nw d (b _ (by simp)) (b _ (by simp)) h).more (by simp;omega)
 rw[ah x]at h;by_cases s:a=8
 ·rw[aq s]at h;exact(aaL (t (.inr s)) d h).more (by omega)
 rw[ah s]at h;by_cases y:a=9
 ·rw[aq y]at h;exact(nw d (b _ (by simp)) (b _ (by simp)) h).more (by simp;omega)
 rw[ah y]at h;by_cases f:a=10
 ·rw[aq f]at h;cases P
  ·exact(nw d (b _ (by simp)) (b _ (by simp)) (show qG [lB] [0,0] [] 0 ks c S=_ from h)).more (by simp;omega)
  ·exact(nw d (b _ (by simp)) (b _ (by simp)) (show qG [lB,lB] [0,1] [lB] 2 ks c S=_ from h)).more (by simp;omega)
 rw[ah f]at h;by_cases g:a=11\/a=12
 ·rw[aq g]at h;cases P
  ·exact(nw d (b _ (by simp)) (b _ (by simp)) (show qG [none,lB] [0,0] [] 1 ks c S=_ from h)).more (by simp;omega)
  ·exact(nw d (b _ (by simp)) (b _ (by simp)) (show qG [none] [0,0] [lB] 1 ks c S=_ from h)).more (by simp;omega)
 rw[ah g]at h;by_cases i:a=13\/a=14
 ·rw[aq i]at h;cases P
  ·exact(nw d (b _ (by simp)) (b _ (by simp)) (show qG [lI] [0,0] [] 0 ks c S=_ from h)).more (by simp;omega)
  ·exact(nw d (b _ (by simp)) (b _ (by simp)) (show qG [lI,lI] [0,1] [lI] 2 ks c S=_ from h)).more (by simp;omega)
 rw[ah i]at h;by_cases j:a=15
 ·rw[aq j]at h;cases P
  ·exact(nw d (b _ (by simp)) (b _ (by simp)) (show qG [lI,lB] [0,0] [] 1 ks c S=_ from h)).more (by simp;omega)
  ·exact(nw d (b _ (by simp)) (b _ (by simp)) (show qG [lI,lI] [0,1] [lI,lB] 3 ks c S=_ from h)).more (by simp;omega)
 rw[ah j]at h;cases h
theorem qd(P:Bool)(inst:Ck->Nd->Ck×(Nat×List Nat))(C:Kn):∀F:Fo,yE (rM P inst C F)=F.size
 | .nil=>rfl
 | .cons a n k r=>by unfold rM;rw[pd,qd P inst C r];rfl
theorem vE{P:Bool}{inst:Ck->Nd->Ck×(Nat×List Nat)}(hi:Al inst){C:Kn}(hc:QT C):∀(F:Fo),F.pos->F.fns (CZ C)->tW (rM P inst C F)
 | .nil,_,_=>λ_ h=>by cases h
 | .cons a n k r,hp,c=>λq b=>by
  unfold rM at b;rcases aE.1 b with rfl|b
  ·refine⟨by simp only;omega,?_⟩;have:=QV (P:=P) hi hc (vE (P:=P) hi hc k hp.2.1 c.2.1) c.1 hp.1;rw[qd]at this;exact this
  ·exact vE hi hc r hp.2.2 c.2.2 q b
theorem Fo.Mb(a n:Int)(k r:Fo)(x:Int):(Fo.cons a n k r).has x=if a=1 then x=n\/r.has x else k.has x\/r.has x:=rfl
theorem JD{t:Nd}{x:Int}:t.one.has x↔if t.a=1 then x=t.n else t.k.has x:=by
 show(Fo.cons t.a t.n t.k .nil).has x↔_;rw[Fo.Mb]
 split
 ·exact⟨λh=>h.resolve_right λh=>h,.inl⟩
 ·exact⟨λh=>h.resolve_right λh=>h,.inl⟩
theorem Xd:∀{l:List Nd} {x:Int},(Fo.of l).has x->∃t∈l,t.one.has x
 |[],_,h=>h.elim
 |t::l,x,h=>by
  have h:(Fo.cons t.a t.n t.k (Fo.of l)).has x:=h;rw[Fo.Mb]at h;have a:t.one.has x\/(Fo.of l).has x:=by
   rw[JD]
   split at h
   ·rename_i e;rw[aq e];exact h
   ·rename_i e;rw[ah e];exact h
  rcases a with h|h
  ·exact⟨t,aO,h⟩
  ·obtain⟨b,a,c⟩:=Xd h;exact⟨b,aS _ a,c⟩
def aeb(x:Int):Nd:=⟨1,x,.nil⟩
theorem Mc{s:Int->Nd}{t:Nd}:(t.put s).one=t.one.put s:=by
 obtain⟨a,n,k⟩:=t;unfold Nd.one;rw[Fo.KA];by_cases e:a=1
 ·rw[aq e,zh e];rfl
 ·rw[ah e,pq e];rfl
def iz(g:Gr)(v:En)(x:Int):(Gr×En)×Nat:=
 match look v x with
 |some m=>((g,v),m)
 |none=>((g++[⟨-1,x,[],none⟩],(x,g.length)::v),g.length)
theorem aaO(h:Good g)(x:Int):Good (g++[⟨-1,x,[],none⟩]):=h.add rfl (λp hp=>by cases hp) (λe=>by cases e) (by show(-1:Int)≠1;decide)
theorem An:∀(f:Fo) (g:Gr) (ps:List Nat),(∀x,f.has x->0<=x/\x.toNat<ps.length)->(dO l7 f g ps).1.1=(dO (λg (_:Unit) x=>((g,()),(ny ps x).getD 0)) f g ()).1.1/\(dO l7 f g ps).2=(dO (λg (_:Unit) x=>((g,()),(ny ps x).getD 0)) f g ()).2/\(dO l7 f g ps).1.2=ps
 | .nil,_,_,_=>⟨rfl,rfl,rfl⟩
 | .cons a n k r,g,ps,h=>by
  unfold Fo.has at h;unfold dO;by_cases d:a=1
  ·simp only[aq d]at h |-;obtain⟨j,l⟩:=h n (.inl rfl);have i:n.toNat+1-ps.length=0:=by omega
   have e:l7 g ps n=((g,ps),ps[n.toNat]?.getD 0):=by unfold l7;rw[i];rfl
   have el:(ny ps n).getD 0=ps[n.toNat]?.getD 0:=by unfold ny;rw[ah (by omega)]
   rw[e,el];obtain⟨r1,r2,c⟩:=An r g ps λx b=>h x (.inr b);exact⟨r1,by show _::_=_::_;rw[r2],c⟩
  ·simp only[ah d]at h |-;obtain⟨i,j,l⟩:=An k g ps λx b=>h x (.inl b);rw[l,i,j];obtain⟨r1,r2,c⟩:=An r ((dO (λg (_:Unit) x=>((g,()),(ny ps x).getD 0)) k g ()).1.1++[⟨a,n,(dO (λg (_:Unit) x=>((g,()),(ny ps x).getD 0)) k g ()).2,none⟩]) ps λx b=>h x (.inr b);exact⟨r1,by show _::_=_::_;rw[r2],c⟩
def rZ{V:Type}(vf:Gr->V->Int->(Gr×V)×Nat)(ty:Int->Nd):List Int->Ck->V->Ck×V
 |[],S,v=>(S,v)
 |f::l,S,v=>rZ vf ty l ⟨(dO vf (ty f).one S.g v).1.1,(-1-f,(dO vf (ty f).one S.g v).2.headD 0)::S.env,S.us⟩ (dO vf (ty f).one S.g v).1.2
def OQ(P:Bool)(C:Kn)(r:oN)(S:Ck):Option Ck:=
 match tQ (IV P) (IU P C r).ps (IU P C r).rhs P r.fn 0 S with
 |none=>none
 |some (a,_)=>match eX a.g with
  |none=>none
  |some _=>some a
structure Gn (Q:Int->Int->Nat->Prop) (φ:Nd->Nd):Prop where
 node:∀(a n:Int) (l:List Nd),Q a n l.length->φ ⟨a,n,Fo.of l⟩=⟨a,n,Fo.of (l.map φ)⟩
def Fo.qok(Q:Int->Int->Nat->Prop):Fo->Prop
 | .nil=>True
 | .cons a n k r=>(a≠1->Q a n k.len)/\k.qok Q/\r.qok Q
structure Xe (Q:Int->Int->Nat->Prop):Prop where
 int:Q 2 0 0
 bool:Q 4 0 0
 arrow:Q 3 0 2
namespace Gn
variable {Q:Int->Int->Nat->Prop} {φ:Nd->Nd}
theorem UM(h:Gn Q φ){a:Int}(k:Fo)(b:Q a n k.len):φ ⟨a,n,k⟩=⟨a,n,Fo.of (k.list.map φ)⟩:=by
 rw[<-h.node a n k.list (by rw[Fo.jg];exact b),Fo.l9]
theorem put(s:Int->Nd)(b:∀a n k,Q a n k->a≠1):Gn Q (Nd.put s):=⟨λa n l c=>by rw[pq (b _ _ _ c),Fo.IQ]⟩
theorem int(h:Gn Q φ)(b:Xe Q):φ ZJ=ZJ:=h.node 2 0 [] b.int
theorem bool(h:Gn Q φ)(b:Xe Q):φ PV=PV:=h.node 4 0 [] b.bool
theorem arrow(h:Gn Q φ)(q:Xe Q)(a b:Nd):φ (IS a b)=IS (φ a) (φ b):=h.node 3 0 [a,b] q.arrow
theorem aec(h:Gn Q φ){s:Int->Nd}:∀(F:Fo),F.qok Q->F.list.map (λt=>φ (t.put s))=F.list.map (Nd.put λx=>φ (s x))
 | .nil,_=>rfl
 | .cons a n k r,b=>by
  show φ (Nd.put s ⟨a,n,k⟩)::r.list.map _=Nd.put (λx=>φ (s x)) ⟨a,n,k⟩::r.list.map _;rw[aec h (s:=s) r b.2.2];by_cases e:a=1
  ·rw[zh e,zh e]
  ·rw[pq e,pq e,h.UM _ (by
    have c:=b.1 e;rw[<-Fo.jg]at c |-;rw[Fo.l_,aW];exact c),Fo.l_,List.map_map]
   have:=aec h (s:=s) k b.2.1
   congr 2
   rw[<-Fo.l9 (k.put λx=>φ (s x)),Fo.l_,<-this];rfl
theorem list(h:Gn Q φ){ps:List Nd}(F:Fo)(a:F.qok Q)(b:∀x,F.has x->0<=x/\x.toNat<ps.length):F.list.map (λt=>φ (t.put (A2 ps)))=F.list.map (Nd.put (A2 (ps.map φ))):=by
 rw[aec h F a];refine Nv λx c=> ?_;have:=(b x c).2;unfold A2;rw[List.getElem?_map,ae this];rfl
theorem ty(h:Gn Q φ){T:Nd}(b:T.one.qok Q)(c:T.ok){ps:List Nd}(d:ps.length=T.i_):φ (T.put (A2 ps))=T.put (A2 (ps.map φ)):=by
 have:=list h (ps:=ps) T.one b (λx a=>⟨c.var x a,by rw[d,<-Nd.nz];exact Fo.nA _ _ a⟩);have e:T.one.list=[T]:=rfl;rw[e]at this;simpa using this
end Gn
end
section
open Go Go.RowKit
def nV(m:Nat):Value:=.int .i64 ((m:Nat):Int)
structure CX where
 base:Nat
 B:Nat
 cx:Nat
 gx:Nat
 ob:Nat
 eb:Nat
 dv:Value
 cv:Value
 fv:Value
 rv:Value
 tv:Value
 kv:Value
 m:Md
 types:List Nd
 l:List Int
def CX.C(X:CX):Kn:=kn X.m X.types X.l
def dH:List fV->Nat->List Nat
 |[],_=>[]
 |d::l,i=>List.replicate d.cons.length i++dH l (i+1)
def kW(m:Md):List Nat:=dH m.bH 0
def lD(Z:Nat->Prop)(ps:List Value):Prop:=∀p∈ps,∀a n c,p=.slice (some a) n c->0<n->¬Z a.block
theorem lD.mono{Z':Nat->Prop}{ps:List Value}(h:lD Z ps)(b:∀q,Z' q->Z q):lD Z' ps:=λp hp a n c e d f=>h p hp a n c e d (b _ f)
theorem lD.append{ps qs:List Value}(h:lD Z ps)(h':lD Z qs):lD Z (ps++qs):=λp hp=>(aQ.1 hp).elim (h p) (h' p)
theorem lD.left{ps qs:List Value}(h:lD Z (ps++qs)):lD Z ps:=λp hp=>h p (List.mem_append_left _ hp)
theorem lD.right{ps qs:List Value}(h:lD Z (ps++qs)):lD Z qs:=λp hp=>h p (List.mem_append_right _ hp)
def tX(Z:Nat->Prop)(w w':World):Prop:=∀(b:Nat) (cur:Array Value) (f:Nat×Nat),w.heap[b]? =some (Obj.cells cur 3 f)->¬Z b->w'.heap[b]? =some (Obj.cells cur 3 f)
theorem lT.z(h:lT w w')(Z:Nat->Prop):tX Z w w':=λb cur f e _=>h b cur f e
theorem dw.js{v:Value}{xs:List Nat}(h:dw w v xs)(d:lD Z [v])(e:tX Z w w'):dw w' v xs:=by
 obtain⟨a,cap,rfl,g,i,j,k⟩:=h;refine⟨a,cap,rfl,g,i,j,λc=> ?_⟩;obtain⟨b,off,cur,f,rfl,l,hc⟩:=k c;exact⟨b,off,cur,f,rfl,e b cur f l (d _ (aJ.2 rfl) _ _ _ rfl c),hc⟩
theorem lD.get{ps:List Value}(h:lD Z ps)(i:Nat):lD Z [ps[i]?.getD undef]:=λp hp=>by
 rw[aJ.1 hp];cases e:ps[i]? with
 |none=>intro a n c h;cases h
 |some q=>exact h q (List.mem_of_getElem? e)
def wF:List (Nat×Int×List Nat)->List Value->List Value
 |u::us,p::ps=>[.int .i64 (u.1:Nat),.int .i64 u.2.1,p]++wF us ps
 |_,_=>[]
theorem Ao:∀{us:List (Nat×Int×List Nat)} {ps:List Value} {u:Nat×Int×List Nat} {p:Value},ps.length=us.length->wF (us++[u]) (ps++[p])=wF us ps++[.int .i64 (u.1:Nat),.int .i64 u.2.1,p]
 |[],[],_,_,_=>rfl
 |[],_::_,_,_,h=>by simp at h
 |_::_,[],_,_,h=>by simp at h
 |u::us,p::ps,a,b,h=>by
  have:=Ao (us:=us) (ps:=ps) (u:=a) (p:=b) (by simpa using h);simp only[bJ,wF];rw[this];simp
structure QW (w:World) (base:Nat) (T:TypeId) (v:Value) (us:List (Nat×Int×List Nat)) (ps:List Value):Prop where
 len:ps.length=us.length
 own:w.ownsRow base T 3 v us.length (wF us ps)
 parts:∀i,i<us.length->dw w (ps[i]?.getD undef) (us[i]?.getD default).2.2
theorem QW.keep{base:Nat}{T:TypeId}{v:Value}{us:List (Nat×Int×List Nat)}{ps:List Value}(h:QW w base T v us ps)(a:lD Z ps)(b:∀(q:Nat) (cur:Array Value),w.heap[q]? =some (Obj.cells cur T)->w'.heap[q]? =some (Obj.cells cur T))(c:tX Z w w'):QW w' base T v us ps:=
 ⟨h.len,nD h.own b,λi hi=>(h.parts i hi).js (a.get i) c⟩
theorem ed.js{K:GK}{base x:Nat}{r:Option Nat}{v:Value}{ps:List Value}(hg:ed K w base x g r v ps)(a:lD Z ps)(b:∀o,w.heap[x]? =some o->w'.heap[x]? =some o)(h2:∀q o,r=some q->w.heap[q]? =some o->w'.heap[q]? =some o)(c:tX Z w w'):ed K w' base x g r v ps:=by
 refine⟨b _ hg.fW,hg.row,⟨hg.own.1,?_⟩,hg.len,λi hi=>(hg.parts i hi).js (a.get i) c,hg.base⟩;exact ana
def Ic(t:TypeId):Prop:=t=193\/t=177
def CX.E(X:CX)(q:Nat):Prop:=q=X.cx\/q=X.gx\/q=X.ob\/q=X.eb
abbrev CX.Kp(X:CX)(w w':World):Prop:=iC Ic X.E X.base w w'
structure cU (X:CX) (Z:Nat->Prop) (w:World) (S:Ck) (c:Nat) (r:Option Nat) (gv:Value) (ps:List Value) (uv:Value) (up:List Value):Prop where
 fW:w.heap[X.cx]? =some (.cells #[.pointer (some ⟨X.gx,0,none⟩),X.dv,X.cv,X.fv,X.rv,X.tv,.map (some X.ob),.map (some X.eb),X.kv,.int .i64 (c:Nat),uv] 152 (0,0))
 gr:ed jU w X.base X.gx S.g r gv ps
 own:eu eT w X.ob (λf=>if 0<=f then(look S.env (-1-f)).map nV else none)
 env:eu eT w X.eb (λn=>if 0<=n then(look S.env n).map nV else none)
 us:QW w X.base 177 uv S.us up
 md:jM w X.B (.agg #[X.dv,X.cv,X.fv,X.rv]) X.m
 ty:dr w X.B X.tv (Fo.of X.types)
 kc:dw w X.kv (kW X.m)
 sep:lD Z (ps++up++[X.kv])
 hB:X.B<=X.base
 xR:X.base<=X.cx
 xe:X.base<=X.ob
 SW:X.base<=X.eb
 eC:X.ob≠X.eb
 uq:∀q,Z q->q<w.heap.size
def dm(X:CX)(Z:Nat->Prop)(w:World)(S:Ck)(c:Nat):Prop:=∃r gv ps uv up,cU X Z w S c r gv ps uv up
structure iA (X:CX) (S:Ck):Prop where
 ok:Ok X.C S
 Xf:jq wV S.g
 own:∀f,0<=f->X.C.own f=false->look S.env (-1-f)=none
theorem iA.step{X:CX}{z:Nat}(h:iA X S)(l:dY S S')(s:nu S S' z):iA X S':=
 ⟨h.ok.later l,s.wV wV (.inr (.inl rfl)) (.inr (.inr (.inl rfl))) (.inr (.inr (.inr (.inl rfl)))) (.inr (.inr (.inr (.inr rfl)))) h.Xf,λf a b=>by rw[s.neg _ (by omega)];exact h.own f a b⟩
def rf{α:Type}(X:CX)(Z:Nat->Prop)(w:World)(c:Nat)(vf:α->Value)(r:Option (Ck×α))(e:Ending)(w':World):Prop:=
 X.Kp w w'/\match r with
  |none=>e=.panicked [{ v:=m9,recovered:=false}]
  |some (S',a)=>e=.returned (vf a)/\dm X Z w' S' c
section
variable {X:CX} {Z:Nat->Prop} {w w':World} {S:Ck} {c:Nat} {r:Option Nat} {gv:Value} {ps:List Value} {uv:Value} {up:List Value}
theorem eu.obj{mb:Nat}{f:Int->Option Value}(h:eu eT w mb f):∃es c,w.heap[mb]? =some (.map es c):=by
 obtain⟨_,⟨es,c,h,_⟩,_⟩:=h;exact⟨es,c,h⟩
theorem cU.ne(h:cU X Z w S c r gv ps uv up):X.cx≠X.gx/\X.cx≠X.ob/\X.cx≠X.eb/\X.gx≠X.ob/\X.gx≠X.eb/\r≠some X.cx/\r≠some X.gx/\r≠some X.ob/\r≠some X.eb:=by
 obtain⟨_,_,b⟩:=h.own.obj;obtain⟨_,_,he⟩:=h.env.obj;have hc:=h.fW;have a:=h.gr.fW;refine⟨λe=> ?_,λe=> ?_,λe=> ?_,λe=> ?_,λe=> ?_,λe=> ?_,λe=> ?_,λe=> ?_,λe=> ?_⟩
 ·rw[e,a]at hc;exact anR
 ·rw[e,b]at hc;cases hc
 ·rw[e,he]at hc;cases hc
 ·rw[e,b]at a;cases a
 ·rw[e,he]at a;cases a
 all_goals obtain⟨cur,G,_⟩:=h.gr.ey e
 ·rw[hc]at G;simp only[aL,Obj.cells.injEq]at G;exact ay G.2.1 (by decide)
 ·rw[a]at G;simp only[aL,Obj.cells.injEq]at G;exact ay G.2.1 (by decide)
 ·rw[b]at G;cases G
 ·rw[he]at G;cases G
theorem cU.other(h:cU X Z w S c r gv ps uv up){n:Nat}(i:Below X.B w w')
 (j:w'.heap[X.cx]? =some (.cells #[.pointer (some ⟨X.gx,0,none⟩),X.dv,X.cv,X.fv,X.rv,X.tv,.map (some X.ob),.map (some X.eb),X.kv,.int .i64 (n:Nat),uv] 152 (0,0)))
 (k:∀q o,w.heap[q]? =some o->q≠X.cx->(∀cur f,o=.cells cur 3 f->¬Z q)->w'.heap[q]? =some o):cU X Z w' S n r gv ps uv up:=by
 obtain⟨z,s,u,A,B,C,n7,n8,D⟩:=h.ne;have p:∀{mb:Nat} {f:Int->Option Value},mb≠X.cx->eu eT w mb f->eu eT w' mb f:=λ{mb f} eC hm=>hm.same λo d=>by
  obtain⟨es,c,a⟩:=hm.obj;rw[a]at d;cases d;exact k _ _ a eC λ_ _ e=>by cases e
 have l:∀(q:Nat) (cur:Array Value) (t:TypeId) (f:Nat×Nat),t≠3->t≠152->w.heap[q]? =some (Obj.cells cur t f)->w'.heap[q]? =some (Obj.cells cur t f):=λq cur t f v x a=>k _ _ a (λe=>by
  subst e;rw[h.fW]at a;cases a;exact x rfl) λ_ _ e=>by cases e;exact ay rfl v
 have m:tX Z w w':=λb cur f g y=>k _ _ g (λe=>by
  subst e;rw[h.fW]at g;simp only[aL,Obj.cells.injEq]at g;exact ay g.2.1 (by decide)) λ_ _ _=>y
 exact⟨j,h.gr.js h.sep.left.left (λo d=>by rw[h.gr.fW]at d;cases d;exact l _ _ jU.T _ (by decide) (by decide) h.gr.fW) (λq o a d=>by
  obtain⟨cur,hc,_⟩:=h.gr.ey a;rw[hc]at d;cases d;exact l _ _ jU.V _ (by decide) (by decide) hc) m,p (λe=>s e.symm) h.own,p (λe=>u e.symm) h.env,
  h.us.keep h.sep.left.right (λq cur a=>l _ _ 177 _ (by decide) (by decide) a) m,h.md.below i lR,h.ty.below i lR,h.kc.js h.sep.right m,h.sep,h.hB,h.xR,h.xe,h.SW,h.eC,λq a=>aC (h.uq q a) i.size⟩
theorem cU.lt(h:cU X Z w S c r gv ps uv up):X.cx<w.heap.size/\X.gx<w.heap.size/\X.base<=w.heap.size:=by
 have a:=(gE h.fW).1;exact⟨a,h.gr.lt.1,ai h.xR (bt a)⟩
theorem cU.below(h:cU X Z w S c r gv ps uv up)(a:Below w.heap.size w w'):cU X Z w' S c r gv ps uv up:=
 h.other (a.mono (ai h.hB h.lt.2.2)) (bQ h.fW a h.lt.1) λ_ _ b _ _=>cY a b
theorem cU.aed(h:cU X Z w S c r gv ps uv up){p:Value}(hp:p∈ps++up++[X.kv]){a:Addr}{n cc:Nat}(e:p=.slice (some a) n cc)(g:0<n):a.block<w.heap.size:=by
 have lt:∀{v:Value} {xs:List Nat},dw w v xs->v=.slice (some a) n cc->a.block<w.heap.size:=λ{v xs} hi e=>by
  obtain⟨m,cap,d,_,_,_,j⟩:=hi;rw[e]at d;cases d;obtain⟨b,off,cur,f,k,l,_⟩:=j g;cases k;exact(gE l).1
 rcases aQ.1 hp with hp|hp
 ·rcases aQ.1 hp with hp|hp
  ·obtain⟨i,hi,d⟩:=bC.1 hp;have:=h.gr.parts i (by rw[<-h.gr.len];exact hi);rw[ae hi,bK,d]at this;exact lt this e
  ·obtain⟨i,hi,d⟩:=bC.1 hp;have:=h.us.parts i (by rw[<-h.us.len];exact hi);rw[ae hi,bK,d]at this;exact lt this e
 ·rw[aJ.1 hp]at e;exact lt h.kc e
theorem cU.z{Z':Nat->Prop}(h:cU X Z w S c r gv ps uv up)(a:∀q,Z' q->Z q):cU X Z' w S c r gv ps uv up:=
 ⟨h.fW,h.gr,h.own,h.env,h.us,h.md,h.ty,h.kc,h.sep.mono a,h.hB,h.xR,h.xe,h.SW,h.eC,λq b=>h.uq q (a q b)⟩
theorem cU.grown(h:cU X Z w S c r gv ps uv up){b0 n:Nat}{a:Value}{xs:List Value}(f:w.ownsRow b0 3 1 a n xs)(b:w.grownBy w' a.ownBlock)(i:∀q,a.ownBlock=some q->Z q)(l:X.B<=b0):cU X Z w' S c r gv ps uv up:=by
 have j:∀q,a.ownBlock=some q->b0<=q/\q<w.heap.size:=iI f;have g:∀q o,w.heap[q]? =some o->some q≠a.ownBlock->w'.heap[q]? =some o:=λq o d eC=>(b.block q (gE d).1 eC).trans d;have hint:∀q,a.ownBlock=some q->∃cur,w.heap[q]? =some (.cells cur 3 (0,0)):=λq e=>by
  rcases f.2 with⟨rfl,_⟩|⟨g',cap,cur,rfl,_,G,_⟩
  ·cases e
  ·cases e;exact⟨cur,G⟩
 refine h.other ⟨b.os,b.tape,b.output,b.size,λk G=> ?_⟩ (g _ _ h.fW λe=> ?_) λq o d _ hi=>g q o d λe=> ?_
 ·have G:k<w.heap.size:=by have:=h.lt.2.2;have:=h.hB;omega
  exact b.block k G λe=>by have:=(j k e.symm).1;omega
 ·obtain⟨cur,hc⟩:=hint _ e.symm;rw[h.fW]at hc;exact anR
 ·obtain⟨cur,hc⟩:=hint _ e.symm;rw[d]at hc;exact hi cur (0,0) (Option.some.inj hc) (i _ e.symm)
theorem cU.kp(h:cU X Z w S c r gv ps uv up){r':Option Nat}(hm:mR X.gx r r' w w'):X.Kp w w':=
 ⟨hm.os,hm.tape,hm.output,hm.size,λq o b d a=>hm.same q o b (λe=>d (.inr (.inl e))) λe=>by
  obtain⟨cur,hc,d⟩:=h.gr.ey e.symm;rw[hc]at b;cases b;rcases a with a|a
  ·omega
  ·exact a (.inl rfl)⟩
theorem cU.graph(h:cU X Z w S c r gv ps uv up){r':Option Nat}(hm:mR X.gx r r' w w'){g':Gr}{d:Value}{a:List Value}(m:ed jU w' X.base X.gx g' r' d a)(n:lD Z a):cU X Z w' { S with g:=g'} c r' d a uv up:=by
 obtain⟨p,s,t,u,v,x,n7,n8,y⟩:=h.ne;have e:∀{mb:Nat} {f:Int->Option Value},eu eT w mb f->eu eT w' mb f:=λ{mb f} i=>i.same λo j=>by
  obtain⟨es,c,b⟩:=i.obj;rw[b]at j;cases j;exact hm.keep h.gr b trivial
 have k:=(hm.qU h.gr (by decide) (by decide)).z Z;have l:Below X.B w w':=h.gr.toBelow hm h.hB (ai h.hB h.lt.2.2);exact⟨hm.keep h.gr h.fW ⟨by decide,by decide⟩,m,e h.own,e h.env,h.us.keep h.sep.left.right (λq cur b=>hm.keep h.gr b ⟨by decide,by decide⟩) k,h.md.below l lR,h.ty.below l lR,
  h.kc.js h.sep.right k,(n.append h.sep.left.right).append h.sep.right,h.hB,h.xR,h.xe,h.SW,h.eC,λq b=>aC (h.uq q b) hm.size⟩
theorem CX.Kp.low(h:X.Kp w w')(hB:B<=X.base)(hw:B<=w.heap.size)(a:X.base<=X.cx)(b:X.base<=X.gx)(c:X.base<=X.ob)(d:X.base<=X.eb):Below B w w':=
 h.toBelow hB hw λq f e=>by rcases e with rfl|rfl|rfl|rfl<;>omega
theorem cU.low(h:cU X Z w S c r gv ps uv up)(a:X.Kp w w')(hB:B<=X.base):Below B w w':=
 a.low hB (ai hB h.lt.2.2) h.xR h.gr.base h.xe h.SW
theorem CX.Kp.own(b:X.Kp w w'){b0 n:Nat}{a:Value}{xs:List Value}(h:w.ownsRow b0 3 1 a n xs)(d:∀q,X.E q->∀cur,w.heap[q]?≠some (.cells cur 3 (0,0))):w'.ownsRow b0 3 1 a n xs:=
 iC.own b h (by unfold Ic;decide) λq c hc e=>d q e c hc
theorem cU.Xg(h:cU X Z w S c r gv ps uv up){q:Nat}(b:X.E q):∀cur t f,t≠152->t≠110->w.heap[q]?≠some (.cells cur t f):=λcur t f d e a=>by
 obtain⟨_,_,g⟩:=h.own.obj;obtain⟨_,_,he⟩:=h.env.obj;rcases b with rfl|rfl|rfl|rfl
 ·rw[h.fW]at a;cases a;exact d rfl
 ·rw[h.gr.fW]at a;cases a;exact e rfl
 ·rw[g]at a;cases a
 ·rw[he]at a;cases a
theorem cU.stays(h:cU X Z w S c r gv ps uv up)(b:X.Kp w w'){q:Nat}{cur:Array Value}{t:TypeId}{f:Nat×Nat}(a:w.heap[q]? =some (.cells cur t f))(d:t≠152)(e:t≠110)(g:¬Ic t):w'.heap[q]? =some (.cells cur t f):=
 b.same q _ a (λi=>h.Xg i cur t f d e a) (.inr g)
end
def uV(_:Unit):Value:=.tuple #[]
attribute [local go_sem] aT cW df nV uV
section
variable {X:CX} {Z:Nat->Prop} {w:World} {S:Ck} {c:Nat}
theorem Fh(h:dm X Z w S c)(b:S.g.length<=1000000000)(s z n:Int)(d:z=xm s){a:Value}{parts:List Nat}(hp:dw w a parts)(f:lD Z [a]):
 Calls Tryz.prog 112 #[.pointer (some ⟨X.gx,0,none⟩),.int .i64 z,.int .i64 n,a] w (rf X Z w c nV (some ((gQ S s n parts).1,S.g.length))):=by
 obtain⟨r,gv,ps,uv,up,h⟩:=h;refine(Dm h.gr h.lt.2.2 b s z n d a parts hp).mono ?_;rintro e w' ⟨rfl,r',v',g,hm⟩;exact⟨h.kp hm,rfl,r',v',_,uv,up,h.graph hm g (h.sep.left.left.append f)⟩
theorem r7(h:dm X Z w S c)(b:S.g.length<=1000000000):
 Calls Tryz.prog 71 #[.pointer (some ⟨X.gx,0,none⟩)] w (rf X Z w c nV (some ((bP S).1,S.g.length))):=by
 obtain⟨r,gv,ps,uv,up,h⟩:=h;refine(Bp h.gr h.lt.2.2 b).mono ?_;rintro e w' ⟨rfl,r',v',d,hm⟩;exact⟨h.kp hm,rfl,r',v',_,uv,up,h.graph hm d (h.sep.left.left.append λp hp a n c e f=>by rw[aJ.1 hp]at e;cases e)⟩
theorem Ap(h:dm X Z w S c)(f:iA X S)(g:S.g.length<=1000000000)(j:a<S.g.length)(k:b<S.g.length):
 Calls Tryz.prog 76 #[.pointer (some ⟨X.gx,0,none⟩),.int .i64 (a:Nat),.int .i64 (b:Nat)] w (rf X Z w c uV (wN S a b)):=by
 obtain⟨r,gv,ps,uv,up,h⟩:=h;refine(Bq (S.g.length+1) h.gr h.lt.2.2 f.ok.low.good.wf (λi hi=>(f.Xf i hi).1) (by omega) j k g).mono ?_;rintro e w' d;unfold wN T3;cases he:DK (S.g.length+1) S.g a b with
 |none=>
  rw[he]at d;obtain⟨rfl,r',hm⟩:=d;exact⟨h.kp hm,rfl⟩
 |some g'=>
  rw[he]at d;obtain⟨rfl,r',v',l,hm⟩:=d;exact⟨h.kp hm,rfl,r',v',ps,uv,up,h.graph hm l h.sep.left.left⟩
theorem dm.below(h:dm X Z w S c)(a:Below w.heap.size w w'):dm X Z w' S c:=by
 obtain⟨r,gv,ps,uv,up,h⟩:=h;exact⟨r,gv,ps,uv,up,h.below a⟩
theorem dm.z{Z':Nat->Prop}(h:dm X Z w S c)(a:∀q,Z' q->Z q):dm X Z' w S c:=by
 obtain⟨r,gv,ps,uv,up,h⟩:=h;exact⟨r,gv,ps,uv,up,h.z a⟩
theorem dm.uq(h:dm X Z w S c):∀q,Z q->q<w.heap.size:=by obtain⟨r,gv,ps,uv,up,h⟩:=h;exact h.uq
theorem dm.OR{w':World}(h:dm X Z w S c){o n cap:Nat}(f:w.heap.size<=b):lD Z [.slice (some ⟨b,o,none⟩) n cap]:=λp hp a g i e _ d=>by
 rw[aJ.1 hp]at e;cases e;have:=h.uq _ d;simp only at this;omega
theorem dm.kp(X:CX)(a:Below w.heap.size w w'):X.Kp w w':=iC.cB a
theorem dm.low(h:dm X Z w S c)(a:X.Kp w w')(hB:B<=X.base):Below B w w':=by
 obtain⟨r,gv,ps,uv,up,h⟩:=h;exact h.low a hB
theorem dm.lt(h:dm X Z w S c):X.cx<w.heap.size/\X.gx<w.heap.size/\X.base<=w.heap.size:=by
 obtain⟨r,gv,ps,uv,up,h⟩:=h;exact h.lt
theorem dm.stays(h:dm X Z w S c)(a:X.Kp w w'){q:Nat}{cur:Array Value}{t:TypeId}{f:Nat×Nat}(b:w.heap[q]? =some (.cells cur t f))(d:t≠152)(e:t≠110)(g:¬Ic t):w'.heap[q]? =some (.cells cur t f):=by
 obtain⟨r,gv,ps,uv,up,h⟩:=h;exact h.stays a b d e g
theorem dm.own(h:dm X Z w S c)(b:X.Kp w w'){b0 n:Nat}{a:Value}{xs:List Value}(d:w.ownsRow b0 3 1 a n xs):w'.ownsRow b0 3 1 a n xs:=by
 obtain⟨r,gv,ps,uv,up,h⟩:=h;exact b.own d λq e cur=>h.Xg e cur _ _ (by decide) (by decide)
theorem dm.cells(h:dm X Z w S c):w.cell? ⟨X.cx,0,none⟩=some (.pointer (some ⟨X.gx,0,none⟩))/\w.cell? ⟨X.cx,1,none⟩=some X.dv/\w.cell? ⟨X.cx,2,none⟩=some X.cv/\w.cell? ⟨X.cx,3,none⟩=some X.fv/\w.cell? ⟨X.cx,4,none⟩=some X.rv/\w.cell? ⟨X.cx,5,none⟩=some X.tv/\
 w.cell? ⟨X.cx,6,none⟩=some (.map (some X.ob))/\w.cell? ⟨X.cx,7,none⟩=some (.map (some X.eb))/\w.cell? ⟨X.cx,8,none⟩=some X.kv/\w.cell? ⟨X.cx,9,none⟩=some (.int .i64 (c:Nat))/\∀j,w.frozen? ⟨X.cx,j,none⟩=false:=by
 obtain⟨r,gv,ps,uv,up,h⟩:=h;refine⟨?_,?_,?_,?_,?_,?_,?_,?_,?_,?_,λj=>by simp[World.frozen?,h.fW]⟩
 all_goals rw[cell_of_row _ _ _ _ _ _ h.fW];rfl
theorem dm.c0(h:dm X Z w S c):w.cell? ⟨X.cx,0,none⟩=some (.pointer (some ⟨X.gx,0,none⟩)):=h.cells.1
theorem dm.c1(h:dm X Z w S c):w.cell? ⟨X.cx,1,none⟩=some X.dv:=h.cells.2.1
theorem dm.c5(h:dm X Z w S c):w.cell? ⟨X.cx,5,none⟩=some X.tv:=h.cells.2.2.2.2.2.1
theorem dm.c6(h:dm X Z w S c):w.cell? ⟨X.cx,6,none⟩=some (.map (some X.ob)):=h.cells.2.2.2.2.2.2.1
theorem dm.c7(h:dm X Z w S c):w.cell? ⟨X.cx,7,none⟩=some (.map (some X.eb)):=h.cells.2.2.2.2.2.2.2.1
theorem dm.c8(h:dm X Z w S c):w.cell? ⟨X.cx,8,none⟩=some X.kv:=h.cells.2.2.2.2.2.2.2.2.1
theorem dm.c9(h:dm X Z w S c):w.cell? ⟨X.cx,9,none⟩=some (.int .i64 (c:Nat)):=h.cells.2.2.2.2.2.2.2.2.2.1
theorem dm.fz(h:dm X Z w S c)(j:Nat):w.frozen? ⟨X.cx,j,none⟩=false:=h.cells.2.2.2.2.2.2.2.2.2.2 j
theorem cU.at{r:Option Nat}{gv:Value}{ps:List Value}{uv:Value}{up:List Value}(h:cU X Z w S c r gv ps uv up):dm X Z w S c:=⟨r,gv,ps,uv,up,h⟩
theorem cU.c10{r:Option Nat}{gv:Value}{ps:List Value}{uv:Value}{up:List Value}(h:cU X Z w S c r gv ps uv up):w.cell? ⟨X.cx,10,none⟩=some uv:=by rw[cell_of_row _ _ _ _ _ _ h.fW];rfl
end
theorem OS{X:CX}(h:dm X Z w S c)(f:S.g.length<=1000000000):
 Calls Tryz.prog 273 #[.pointer (some ⟨X.cx,0,none⟩)] w (rf X Z w c nV (some ((gQ S 2 0 []).1,S.g.length))):=by
 have c0:=h.c0;have z0:=af c0;have b:=hI (Fh h f 2 1 0 rfl (dw.nil w) (λp hp a n c e d=>by rw[aJ.1 hp]at e;cases e));clear h
 go_enter Tryz.func273,Tryz.ntmps273
 go_wp2_with fail
 refine b.o.mono ?_;rintro e w' ⟨d,rfl,h⟩;have g:=hI d;have H:=hI h;clear d h b;go_wp2;go_ret;exact⟨g.o,rfl,H.o⟩
theorem dm.count{X:CX}(h:dm X Z w S c)(a:Nat):dm X Z (w.setCell ⟨X.cx,9,none⟩ (.int .i64 (a:Nat))) S a/\X.Kp w (w.setCell ⟨X.cx,9,none⟩ (.int .i64 (a:Nat))):=by
 obtain⟨r,gv,ps,uv,up,h⟩:=h;have d:∀q o,w.heap[q]? =some o->q≠X.cx->(w.setCell ⟨X.cx,9,none⟩ (.int .i64 (a:Nat))).heap[q]? =some o:=λq o b eC=>(au _ _ _ _ eC).trans b;refine⟨⟨r,gv,ps,uv,up,h.other (bR.setCell (p:=⟨X.cx,9,none⟩) (by have:=h.hB;have:=h.xR;show X.B<=X.cx;omega) _) ?_ λq o b eC _=>d q o b eC⟩,(iC.refl w).setCell (p:=⟨X.cx,9,none⟩) (.inl rfl) _⟩;simp only[World.setCell,Array.getElem?_modify,if_true,h.fW,Option.map_some]
 rfl
theorem Aq{X:CX}(h:dm X Z w S c)(d:c<=1000000000):
 Calls Tryz.prog 272 #[.pointer (some ⟨X.cx,0,none⟩)] w (rf X Z w (c+1) nV (some (S,c))):=by
 have c9:=h.c9;have f9:=h.fz 9;have z0:=af c9;have a:=hI (h.count (c+1));have b:((c+1:Nat):Int)=(c:Int)+1:=by omega
 rw[b]at a;clear h b
 go_enter Tryz.func272,Tryz.ntmps272
 go_wp2;go_ret;exact⟨a.o.2,rfl,a.o.1⟩
end
section
open Go Go.RowKit
attribute [local go_sem] aT cW df nV uV
structure Ds (X:CX):Prop where
 mod:iy X.m=true
 con:xY X.C
 sm:QT X.C
 len:X.types.length=X.m.prog.sig.bj.length
def Fo.low:Fo->Bool
 | .nil=>true
 | .cons a _ k r=>decide (a<=4)&&(k.low&&r.low)
def Fi(m:Md):Bool:=m.prog.rules.all λr=>r.bT.low&&r.rhs.one.low
theorem Fo.wG{a:Int}{k r:Fo}:(Fo.cons a n k r).low=true↔a<=4/\k.low=true/\r.low=true:=by
 show(decide (a<=4)&&(k.low&&r.low))=true↔_;rw[ak,ak,decide_eq_true_eq]
structure jb (X:CX) (F:Fo):Prop where
 nodes:cK X.m.prog.sig F=true
 fns:F.fns λf=>A5 X.C f
 sm:F.fns (CZ X.C)
 low:F.low=true
theorem jb.at{X:CX}:∀{F:Fo} {i:Nat},jb X F->i<F.len->jb X (F.at i).one
 | .cons a n k r,0,h,_=>by
  have b:=h.nodes;unfold cK at b;simp only[ak]at b;exact⟨by unfold Fo.at Nd.one cK;simp only[b.1.1,b.1.2];rfl,⟨h.fns.1,h.fns.2.1,trivial⟩,⟨h.sm.1,h.sm.2.1,trivial⟩,Fo.wG.2 ⟨(Fo.wG.1 h.low).1,(Fo.wG.1 h.low).2.1,rfl⟩⟩
 | .cons a n k r,i+1,h,hi=>by
  have b:=h.nodes;unfold cK at b;simp only[ak]at b;exact jb.at (F:=r) ⟨b.2,h.fns.2.2,h.sm.2.2,(Fo.wG.1 h.low).2.2⟩ (Nat.lt_of_succ_lt_succ hi)
 | .nil,_,_,h=>ay h (ax _)
theorem jb.kids{X:CX}{t:Nd}(h:jb X t.one):jb X t.k:=by
 have a:=h.nodes;unfold Nd.one cK at a;simp only[ak]at a;exact⟨a.1.2,h.fns.2.1,h.sm.2.1,(Fo.wG.1 h.low).2.1⟩
theorem jb.node{X:CX}{t:Nd}(h:jb X t.one):cS X.m.prog.sig t.a t.n t.k.len=true:=by
 have a:=h.nodes;unfold Nd.one cK at a;simp only[ak]at a;exact a.1.1
theorem jA:∀{F:Fo},cK s F=true->F.lets/\F.pos
 | .nil,_=>⟨trivial,trivial⟩
 | .cons a n k r,h=>by
  unfold cK at h;simp only[ak]at h;obtain⟨c,d⟩:=jA h.1.2;obtain⟨r1,r2⟩:=jA h.2;refine⟨⟨λb=>wj h.1.1 b,c,r1⟩,⟨λb=> ?_,d,r2⟩⟩;rcases b with b|b
  ·have:=h.1.1;unfold cS at this;rw[aq b]at this;simp[fX]at this;omega
  ·exact wj h.1.1 b
theorem jb.var{X:CX}{t:Nd}(a:jb X t.one)(b:t.a=1\/t.a=8):0<=t.n:=(jA a.nodes).2.1 b
theorem yG{p:Int->Prop}:∀{F:Fo},cK s F=true->F.fns p->F.fns λf=>0<=f/\p f
 | .nil,_,_=>trivial
 | .cons a n k r,h,hp=>by
  unfold cK at h;simp only[ak]at h;exact⟨λb=>⟨(mV h.1.1 b).1,hp.1 b⟩,yG h.1.2 hp.2.1,yG h.2 hp.2.2⟩
theorem jb.fo{X:CX}{F:Fo}(h:jb X F):CB X.C F:=⟨(jA h.nodes).1,yG h.nodes h.fns⟩
def CX.one(X:CX)(t:Nd):oM:=xW true er X.C t.a t.n (rM true er X.C t.k)
def CX.ks(X:CX)(F:Fo):List (Nat×oM):=rM true er X.C F
theorem vF{X:CX}(d:Ds X){t:Nd}(a:jb X t.one)(f:iA X S)(e:X.one t c S=some (S',m)):iA X S'/\m<S'.g.length/\dY S S'/\nu S S' (1000*t.size-10):=by
 have g:tW (rM true er X.C t.one):=vE rX d.sm t.one (jA a.nodes).2 a.sm;have i:OO (1+t.k.size) (X.one t):=(g (1+t.k.size,X.one t) (by unfold Nd.one rM CX.one;exact aO)).2;obtain⟨l,b⟩:=CB.WY (t:=t) a.fo d.con c S S' m f.ok e;have s:nu S S' (1000*t.size-10):=i c S S' m e;exact⟨f.step l s,b,l,s⟩
def Room(S:Ck)(c z:Nat):Prop:=S.g.length+1000*z<=900000000/\S.us.length+1000*z<=900000000/\c+z<=900000000
theorem Room.next{z:Nat}(h:Room S c (z+b))(s:nu S S' a)(d:a<=1000*z):Room S' (c+z) b:=by
 obtain⟨e,f,g⟩:=h;have:=s.len;have:=s.us;exact⟨by omega,by omega,by omega⟩
theorem Room.less{z:Nat}(h:Room S c z)(b:a<=z):Room S c a:=by
 obtain⟨d,e,f⟩:=h;exact⟨by omega,by omega,by omega⟩
def yH(X:CX)(t:Nd):Prop:=∀(Z:Nat->Prop) (S:Ck) (c:Nat) (tv:Value) (w:World),dm X Z w S c->iA X S->Room S c t.size->cV w X.B tv t->
 Calls Tryz.prog 162 #[.pointer (some ⟨X.cx,0,none⟩),tv] w (rf X Z w (c+t.size) nV (X.one t c S))
theorem dm.qU{X:CX}(h:dm X Z w S c)(a:X.Kp w w'):lT w w':=λ_ _ _ e=>h.stays a e (by decide) (by decide) (by unfold Ic;decide)
theorem QX(X:CX){F:Fo}{i:Nat}(h:i<F.len):X.ks (F.drop i)=((F.at i).size,X.one (F.at i))::X.ks (F.drop (i+1)):=by
 rw[Fo.mr h];rfl
theorem Fo.Ar:∀{F:Fo} {i:Nat},i<F.len->(F.drop i).size=(F.at i).size+(F.drop (i+1)).size:=λ{F i} h=>by
 rw[Fo.mr h];rfl
theorem Xh{i:Nat}(h:i<l.length):l.drop i=l[i]?.getD 0::l.drop (i+1):=by
 rw[ae h,bK];exact bI h
theorem aaP{X:CX}(c:iA X S)(d:a<S.g.length)(f:b<S.g.length)(e:wN S a b=some (S',u)):iA X S'/\nu S S' 0/\dY S S':=
 let l:dY S S':=eqL c.ok.low d f e
 ⟨c.step l (Ak e),Ak e,l⟩
theorem Room.eq{z:Nat}(h:Room S c z)(s:nu S S' 0):Room S' c z:=by
 obtain⟨b,d,a⟩:=h;have:=s.len;have:=s.us;exact⟨by omega,by omega,a⟩
theorem aaQ{X:CX}(hX:Ds X){t:Nd}(ht:jb X t.k)(hk:∀i,i<t.k.len->yH X (t.k.at i)){tv wv:Value}{ws:List Nat}(h:dm X Z w S c)(ho:iA X S)(J:Room S c t.k.size)(hv:cV w X.B tv t)
 (hw:dw w wv ws) (g:ws.length=t.k.len) (F:∀x∈ws,x<S.g.length):
 Calls Tryz.prog 275 #[.pointer (some ⟨X.cx,0,none⟩),tv,wv] w (rf X Z w (c+t.k.size) uV (nB (X.ks t.k) ws c S)):=by
 obtain⟨sv,rfl,r⟩:=hv;obtain⟨sa,sc,rfl⟩:=r.slice;have Bc:=r.small;have fK:t.k.len<=900000000:=by have:=t.k.nE;have:=J.2.2;omega
 obtain⟨wa,wc,rfl⟩:=hw.slice;have z:=Below.cA w (.cells #[.int .i64 t.a,.int .i64 t.n,.slice sa t.k.len sc] 54);have HL:Hd (∀w',X.Kp w w'->Below X.B w w'):=hI λw' j=>h.low j (by obtain⟨_,_,_,_,_,K⟩:=h;exact K.hB);have HS:=hI r;have CI:Hd (X.base<=w.heap.size/\X.B<=X.base):=hI ⟨h.lt.2.2,by obtain⟨_,_,_,_,_,K⟩:=h;exact K.hB⟩;obtain⟨L,nY,M,HT,HO,HR,HW,l,yx,HX⟩:=h_10 (h.below z) (dm.kp X z) hk ht ho J (hw.keep (lT.cB z)) g F hX;generalize E:nB (X.ks t.k) ws c S=res;have ix:=hI E;obtain⟨c',f⟩:=xE (c+t.k.size);rw[<-f];have WU:=hI f;have alW:ws.length<=900000000:=by omega
 clear h r hk ht ho J hw g F hX z E f
 go_enter Tryz.func275,Tryz.ntmps275
 go_wp2
 go_loopw [12] (λi wr=>∃(k:Nat) (d:Ck) (c1:Nat),k<=t.k.len/\i=.int .i64 k/\dm X Z wr d c1/\X.Kp w wr/\iA X d/\Room d c1 (t.k.drop k).size/\c1+(t.k.drop k).size=c'/\S.g.length<=d.g.length/\nB (X.ks (t.k.drop k)) (ws.drop k) c1 d=res/\
  dw wr (.slice wa ws.length wc) ws) (λi _=>t.k.len-(intOf i).toNat)
 case atStart=>exact⟨0,S,c,aw _,rfl,L.o,nY.o,HO.o,by rw[Fo.drop_zero];exact HR.o,by rw[Fo.drop_zero];exact WU.o.symm,lR,by rw[Fo.drop_zero];exact ix.o,HW.o⟩
 case round=>
  obtain⟨k,d,c1,iS,rfl,C,j,G,N,v,O,y,n⟩:=hrel;by_cases o:k<t.k.len
  ·have H:=HL.o wr j;obtain⟨b,off,cap,p,pc,ui,fF,f0,f1,f2,I⟩:=dC HS.o H o;cases ui;have F:=CI.o;have zb:b<wr.heap.size:=af f0;have z:=Below.cA wr (.cells #[.int .i64 (t.k.at k).a,.int .i64 (t.k.at k).n,.slice p (t.k.at k).k.len pc] 54);have T:=Fo.Ar o;have f:=N;rw[T]at f v;have A:=M.o k o Z d c1 (.agg #[.int .i64 (t.k.at k).a,.int .i64 (t.k.at k).n,.slice p (t.k.at k).k.len pc]) _ (C.below z) G (f.less (by omega)) ⟨_,rfl,I.below z (by have:=j.size;omega)⟩;obtain⟨HN,P,Q,Nn⟩:=h_4 (λS2 a e=>vF HX.o (HT.o.at o) (S:=d) (S':=S2) (c:=c1) (m:=a) G e) (n.keep (lT.cB z)) (C.below z) (j.below z);have r:k<ws.length:=by rw[l.o];exact o
   have E:=yx.o (ws[k]?.getD 0) (by rw[ae r];exact aR _);obtain⟨x0,g⟩:=xE (ws[k]?.getD 0);have D:Hd (x0<d.g.length):=hI (by rw[g];omega);rw[QX X o,Xh r,<-g]at y;have B:Hd (eG (X.one (t.k.at k) c1 d) (λS2 a=>eG (wN S2 a x0) λs _=>nB (X.ks (t.k.drop (k+1))) (ws.drop (k+1)) (c1+(t.k.at k).size) s)=res):=hI y;obtain⟨R,QY,Xi,AN,dL⟩:=h_5 g f v O o;clear y g E H I C j G N f v O n z T F r;have om:(k:Int)<(t.k.len:Int):=by omega
   have hwI:(k:Int)<(ws.length:Int):=by have:=l.o;omega
   cases he:X.one (t.k.at k) c1 d with
   |none=>
    rw[he]at A B;obtain rfl:none=res:=B.o;have f:=hI A;clear A he
    go_wp2_with fail
    refine f.o.mono ?_;rintro e w3 ⟨g,rfl⟩;have H:=hI (Nn.o.trans g);clear g;go_wp2;exact⟨rfl,H.o,rfl⟩
   |some q=>
    obtain⟨S2,a⟩:=q;rw[he]at A B;obtain⟨r,F,z,E⟩:=HN.o S2 a he;obtain⟨f,jN,lG,T,Xj⟩:=h_5 A r F z E;clear A he HN r F z E
    go_wp2_with fail
    refine f.o.mono ?_;rintro e w3 ⟨g,rfl,F⟩;have c0:=F.c0;have E:=P.o.keep (Q.o.qU g);obtain⟨ib,io,ic,T7,hib,i0⟩:=E.cell (i:=k) (by omega);cases T7;rw[<-R.o]at i0;have I:=af c0;have V:=af i0;obtain⟨H,r,z⟩:=h_3 (Nn.o.trans g) F E;clear g F E f f0 f1 f2
    go_wp2_with fail
    refine gw 9 (by kernel_rfl) (by kernel_rfl) ?_;simp only[List.take_succ_cons,List.take_zero,List.drop_succ_cons,List.drop_zero]
    repeat go_big_quiet_step (fail)
    refine wpQuiet_nil ?_;intro w4 F;obtain⟨oy,E,U⟩:=h_3 (H.o.below F) (r.o.below F) (z.o.keep (lT.cB F));clear F c0 i0 I V H r z;have Xk:S2.g.length<=1000000000:=by have:=Xj.o.len;have:=QY.o.1;omega
    have r:=Ap E.o jN.o Xk lG.o (b:=x0) (by have:=D.o;have:=T.o.len;omega);have GS:=hI (λs u e=>aaP (S':=s) (u:=u) (b:=x0) jN.o lG.o (by have:=D.o;have:=T.o.len;omega) e);cases he:wN S2 a x0 with
    |none=>
     rw[he]at r;have I:none=res:=by have:eG (wN S2 a x0) _=res:=B.o;rw[he]at this;exact this
     subst I;have f:=hI r;clear r he
     go_wp2_with fail
     refine f.o.mono ?_;rintro e w5 ⟨z,rfl⟩;have V:=hI (oy.o.trans z);clear z;go_wp2;exact⟨rfl,V.o,rfl⟩
    |some q=>
     obtain⟨s,u⟩:=q;rw[he]at r;have I:nB (X.ks (t.k.drop (k+1))) (ws.drop (k+1)) (c1+(t.k.at k).size) s=res:=by have:eG (wN S2 a x0) _=res:=B.o;rw[he]at this;exact this
     obtain⟨F,m2,m3⟩:=GS.o s u he;obtain⟨f,W,Y,CW,HRN⟩:=h_5 r F m2 m3 I;clear r he B GS I F m2 m3
     go_wp2_with fail
     refine f.o.mono ?_;rintro e w5 ⟨z,rfl,F⟩;obtain⟨V,akw,HI5⟩:=h_3 (oy.o.trans z) F (U.o.keep (E.o.qU z));clear z F;go_wp2
     go_roundw
     case rel=>exact⟨k+1,s,c1+(t.k.at k).size,dL.o,by go_num,akw.o,V.o,W.o,(QY.o.next Xj.o (by omega)).eq Y.o,by have:=Xi.o;omega,by have:=AN.o;have:=T.o.len;have:=CW.o.len;omega,HRN.o,HI5.o⟩
     case measure=>have:=dL.o;simp[intOf];omega
  ·obtain rfl:k=t.k.len:=by omega
   have F:t.k.drop t.k.len=.nil:=Fo.ie lR;rw[F]at y v;have z:c1=c':=v;have f:ws.drop t.k.len=[]:=List.drop_eq_nil_of_le (by rw[l.o];exact lR);rw[f]at y;obtain rfl:some (d,())=res:=y;subst z;have E:=hI C;have r:=hI j;clear C j G N v O n F f;go_wp2
   go_end0
   exact⟨r.o,rfl,E.o⟩
end
end Go.Proofs.YtnicceekibancaaGreat
