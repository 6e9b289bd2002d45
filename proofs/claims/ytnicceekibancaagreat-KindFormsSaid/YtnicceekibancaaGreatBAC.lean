/- Lemmas: RefN RefO RefP RefQ RefR RefS RefT InfA RefU RefV ProA ProB Every Iter. -/
import Derived.Test.YtnicceekibancaaGreatBZ
import Derived.Test.YtnicceekibancaaGreatBAB
import Derived.Test.YtnicceekibancaaGreatBAA
import Derived.RangeFuncBound
set_option linter.all false
set_option maxRecDepth 100000
set_option maxHeartbeats 8000000
namespace Go.Proofs.YtnicceekibancaaGreat
variable{a:Value}{i k n:Nat}{l:List fV}{p:Pg}{s:Sg}
section
open Go Go.RowKit
attribute [local go_sem] aT cW df
def pO(p:Nd->Bool):Fo->Bool
 | .nil=>true
 | .cons a n k r=>p ⟨a,n,k⟩&&pO p r
theorem wh{p:Nd->Bool}:∀{F:Fo} {i:Nat},i<F.len->p (F.at i)=false->pO p F=false
 | .nil,_,h,_=>ay h (ax _)
 | .cons a n k r,0,_,h=>by show(p ⟨a,n,k⟩&&pO p r)=false;rw[show p ⟨a,n,k⟩=false from h];rfl
 | .cons a n k r,i+1,hi,h=>by show(p ⟨a,n,k⟩&&pO p r)=false;rw[wh (F:=r) (i:=i) (by unfold Fo.len at hi;omega) h];simp
theorem u_{p:Nd->Bool}:∀{F:Fo},(∀i,i<F.len->p (F.at i)=true)->pO p F=true
 | .nil,_=>rfl
 | .cons a n k r,h=>by show(p ⟨a,n,k⟩&&pO p r)=true;rw[show p ⟨a,n,k⟩=true from h 0 (Nat.succ_pos _),u_ (F:=r) λi hi=>h (i+1) (Nat.succ_lt_succ hi)];rfl
def kU(s:Sg)(v:Int)(t:Nd):Bool:=dq s t&&Er t&&ew (f_ v) t
def jO(s:Sg)(r:oN):Bool:=
 fX r.fn 0 ((s.bj.length:Int)-1)&&(r.bT.len:Int)==(bS s.bj r.fn.toNat).args&&fX r.vars 0 20&&dq s r.rhs&&pO (kU s r.vars) r.bT&&
  (Gd r.bT&&ew (f_ r.vars) r.rhs&&pN r.rhs (cC ⟨0,0,r.bT⟩))
abbrev aag:Oper:=⟨some 75,.fieldAddr 139 (.tmp 3) 1,0,cn,#[],none⟩
abbrev aah:Oper:=⟨some 76,.load 52 (.tmp 75),52,cn,#[aj 0],none⟩
abbrev aai:Oper:=⟨some 77,.call ⟨.value (.func 155),#[.tmp 76],#[52]⟩,4,cn,#[aj 1],none⟩
abbrev aaj:Oper:=⟨some 78,.move (.tmp 77),4,cn,#[aj 2,ao 2],none⟩
abbrev aak:Oper:=⟨some 79,.fieldAddr 139 (.tmp 3) 2,0,cn,#[a6 3],some (3,true)⟩
abbrev aal:Oper:=⟨some 80,.load 54 (.tmp 79),54,cn,#[aj 4,a6 3],some (3,true)⟩
abbrev aam:Oper:=⟨some 81,.fieldAddr 139 (.tmp 3) 3,0,cn,#[a6 3],some (3,true)⟩
abbrev aan:Oper:=⟨some 82,.load 3 (.tmp 81),3,cn,#[aj 6,a6 3],some (3,true)⟩
abbrev aao:Oper:=⟨some 83,.call ⟨.value (.func 154),#[.tmp 80,.tmp 82],#[54,3]⟩,4,cn,#[aj 5,aj 7,ao 3,a6 3],some (3,true)⟩
abbrev aap:Oper:=⟨some 84,.pick (.tmp 78) (.tmp 83) (.const (.bool false)),4,cn,#[aj 3,aj 8],none⟩
abbrev Vp:Oper:=⟨some 85,.move (.tmp 84),4,cn,#[aj 9,ao 8],none⟩
abbrev Vq:Oper:=⟨some 86,.fieldAddr 139 (.tmp 3) 2,0,cn,#[a6 10],some (10,true)⟩
abbrev Vr:Oper:=⟨some 87,.load 54 (.tmp 86),54,cn,#[aj 11,a6 10],some (10,true)⟩
abbrev Vs:Oper:=⟨some 88,.fieldAddr 139 (.tmp 3) 1,0,cn,#[a6 10],some (10,true)⟩
abbrev Vt:Oper:=⟨some 89,.load 52 (.tmp 88),52,cn,#[aj 13,a6 10],some (10,true)⟩
abbrev Vu:Oper:=⟨some 90,.call ⟨.value (.func 157),#[.tmp 89],#[52]⟩,54,cn,#[aj 14,ao 10,a6 10],some (10,true)⟩
abbrev Vv:Oper:=⟨some 91,.call ⟨.value (.func 46),#[.tmp 90],#[54]⟩,74,cn,#[aj 15,ao 15,a6 10],some (10,true)⟩
abbrev Vw:Oper:=⟨some 92,.call ⟨.value (.func 156),#[.tmp 87,.tmp 91],#[54,74]⟩,4,cn,#[aj 12,aj 16,ao 16,a6 10],some (10,true)⟩
abbrev Vy:Oper:=⟨some 93,.pick (.tmp 85) (.tmp 92) (.const (.bool false)),4,cn,#[aj 10,aj 17],none⟩
abbrev Vz:Oper:=⟨some 4,.assign (.tmp 93),4,cn,#[aj 18,ao 17,al 0,al 1,al 2,al 3,al 4,al 5,al 6,al 7,al 8,al 9,al 10,al 11,al 12,al 13,al 14,al 15,al 16,al 17,al 18],none⟩
def VA:Array Oper:= #[aag,aah,aai,aaj,aak,aal,aam,aan,aao,aap,Vp,Vq,Vr,Vs,Vt,Vu,Vv,Vw,Vy,Vz]
theorem pP{t:Nd}(h:dq s t=true):t.size<=40:=by
 unfold dq at h;rw[ak]at h;exact(bu h.1).1
theorem qY:∀{F:Fo} {c:Nat},(∀i,i<F.len->(F.at i).size<=c)->F.size<=c*F.len
 | .nil,_,_=>aw _
 | .cons a n k r,c,h=>by
  have b:1+k.size<=c:=h 0 (Nat.succ_pos _);have d:=qY (F:=r) (c:=c) λi hi=>h (i+1) (Nat.succ_lt_succ hi);unfold Fo.size Fo.len;rw[Nat.mul_add];omega
theorem Lb{V a:World}{b:Nat}{x1 c d e f:Value}(h:V.cell? ⟨b,1,none⟩=some x1/\V.cell? ⟨b,2,none⟩=some c/\V.cell? ⟨b,3,none⟩=some d/\V.cell? ⟨b,4,none⟩=some e/\V.cell? ⟨b,5,none⟩=some f)(g:Below V.heap.size V a):
 a.cell? ⟨b,1,none⟩=some x1/\a.cell? ⟨b,2,none⟩=some c/\a.cell? ⟨b,3,none⟩=some d/\a.cell? ⟨b,4,none⟩=some e/\a.cell? ⟨b,5,none⟩=some f:=by
 have k:∀o,a.cell? ⟨b,o,none⟩=V.cell? ⟨b,o,none⟩:=λo=>g.cell (p:=⟨b,o,none⟩) (af h.1);rw[k,k,k,k,k];exact h
theorem NP(s:Sg)(r:oN)(sv rv:Value)(w:World)(B:Nat)(X:ku w B sv s)(hr:I1 w B rv r)(hB:B<=w.heap.size)(Qi:∀i,i<s.bj.length->(bS s.bj i).args<=4):
 aH Tryz.prog 97 #[sv,rv] w (.bool (jO s r)):=by
 have Y:=hI (X.mono hB);obtain⟨cv,fv,rfl,hc,u⟩:=X;obtain⟨pv,kv,rfl,hp,H⟩:=hr;have su:=u.small;have qz:=hp.small;obtain⟨I,cc,rfl⟩:=hc.slice;obtain⟨N,J,rfl⟩:=u.slice;obtain⟨o,p,rfl⟩:=hp.slice;obtain⟨ka,kc,rfl⟩:=H.slice;obtain⟨W,G⟩:=xE ((w.alloc (.cells #[.slice I s.cons.length cc,.slice N s.bj.length J] 39)).alloc (.cells #[.int .i64 r.fn,.slice o r.bT.len p,.int .i64 r.rhs.a,.int .i64 r.rhs.n,.slice ka r.rhs.k.len kc,.int .i64 r.vars] 139));have cg:Hd (Below w.heap.size w W):=hI (by rw[G];exact Below.jE w _ _);have l:W.heap[w.heap.size]? =some (.cells #[.slice I s.cons.length cc,.slice N s.bj.length J] 39 (0,0)):=by rw[G];exact(cH _ _ _).1
 have a:W.heap[w.heap.size+1]? =some (.cells #[.int .i64 r.fn,.slice o r.bT.len p,.int .i64 r.rhs.a,.int .i64 r.rhs.n,.slice ka r.rhs.k.len kc,.int .i64 r.vars] 139 (0,0)):=by rw[G];exact(cH _ _ _).2
 have c0:=cZ l;have c1:=eY l;have d0:=cZ a;have d1:=eY a;have d2:=fu a;have d3:=xk a;have d4:=Za a;have d5:=cr5 a;have y:w.heap.size<W.heap.size:=af c0;have z2:w.heap.size+1<W.heap.size:=af d0;obtain⟨E,v,HF,O,P⟩:=h_5 l a (u.mono hB) (hp.mono hB) (H.mono hB);have NQ:Hd (∀d os,aH Tryz.prog 43 #[.agg #[.slice I s.cons.length cc,.slice N s.bj.length J],.agg #[.int .i64 r.rhs.a,.int .i64 r.rhs.n,.slice ka r.rhs.k.len kc]] (Go.Sort.grow (redrawn W d) os) (.bool (dq s r.rhs))):=
  hI λd os=>(λV (m:Below W.heap.size W V)=>Eg s r.rhs _ _ V w.heap.size (Y.o.below (ag cg.o m lR) lR) ⟨_,rfl,P.o.below (ag cg.o m lR) lR⟩ (ag cg.o m lR).size) _ (below_regrown W d os)
 have wR:=hI G;clear G l a hc u hp H;unfold aH;cases g1:fX r.fn 0 (((s.bj.length:Nat):Int)-1)
 case false=>
  have u:=hI g1;have HV:Hd (jO s r=false):=hI (by unfold jO;rw[g1];rfl);clear g1
  go_enter Tryz.func97,Tryz.ntmps97
  go_wp2;rw[<-wR.o];refine aM (by kernel_rfl) (by kernel_rfl) ?_
  repeat go_big_quiet_step ((exact aH.quiet (aH.of_same (by have h:=eQ r.fn 0 (((s.bj.length:Nat):Int)-1);rw[u.o]at h;exact h _))))
  refine wpQuiet_nil ?_;intro w2 bD;have cR:=hI (ag cg.o bD lR);exact amM
 have G:=g1;unfold fX at G;rw[ak]at G;have C:=bu G.1;have R:=bu G.2;obtain⟨n,u⟩:∃n:Nat,r.fn=n:=⟨r.fn.toNat,by omega⟩;have z:n<s.bj.length:=by omega
 obtain⟨b,off,cap,he,g,_,x1,_⟩:=fJ HF.o cg.o z;cases he;have Q:=Qi n z;obtain⟨L,D⟩:=xE ((bS s.bj n).args);rw[<-D]at x1 Q;have x:b<W.heap.size:=af x1;have f:jO s r=((r.bT.len:Int)==L&&fX r.vars 0 20&&dq s r.rhs&&pO (kU s r.vars) r.bT&&(Gd r.bT&&ew (f_ r.vars) r.rhs&&pN r.rhs (cC ⟨0,0,r.bT⟩))):=by
  unfold jO;rw[g1,u,bw,<-D]
  rfl
 have RU:Hd (∀V,aH Tryz.prog 151 #[.int .i64 (n:Nat),.int .i64 0,.int .i64 (((s.bj.length:Nat):Int)-1)] V (.bool true)):=hI λV=>aH.of_same (by have h:=eQ (n:Nat) 0 (((s.bj.length:Nat):Int)-1) V;rw[<-u,g1]at h;rw[u]at h;exact h);rw[u]at d0 wR v |-;have M:(n:Int)<(s.bj.length:Int):=by omega
 clear g1 G C R D u;by_cases g2:(r.bT.len:Int)=L
 case neg=>
  have e2:((r.bT.len:Int) != L)=true:=gy g2;have HV:Hd (jO s r=false):=hI (by rw[f,beq_eq_false_iff_ne.2 g2];rfl);have NR:=RU;clear g2 f;exact amE
 have e2:((r.bT.len:Int) != L)=false:=jX g2;rw[b_.2 g2,aU]at f;have hp4:r.bT.len<=4:=by omega
 clear g2;cases g3:fX r.vars 0 20
 case false=>
  have HV:Hd (jO s r=false):=hI (by rw[f,g3];rfl);have NR:Hd (∀V,aH Tryz.prog 151 #[.int .i64 r.vars,.int .i64 0,.int .i64 20] V (.bool false)):=hI λV=>aH.of_same (by have h:=eQ r.vars 0 20 V;rw[g3]at h;exact h);clear g3 f;exact amE
 have NR:Hd (∀V,aH Tryz.prog 151 #[.int .i64 r.vars,.int .i64 0,.int .i64 20] V (.bool true)):=hI λV=>aH.of_same (by have h:=eQ r.vars 0 20 V;rw[g3]at h;exact h);rw[g3,aU]at f;clear g3;cases g4:dq s r.rhs
 case false=>
  have HV:Hd (jO s r=false):=hI (by rw[f,g4];rfl);rw[g4]at NQ;clear g4 f;exact amE
 have ox:=hI (pP g4);rw[g4]at NQ f;rw[aU]at f;have J9:=hI f;clear g4 f
 go_enter Tryz.func97,Tryz.ntmps97
 go_wp2;rw[<-wR.o];refine aM (by kernel_rfl) (by kernel_rfl) ?_
 repeat go_big_quiet_step ((first|(with_reducible exact aH.quiet (RU.o _))|(with_reducible exact aH.quiet (NR.o _))|(with_reducible exact aH.quiet (NQ.o _ _))))
 refine wpQuiet_nil ?_;intro w2 bD;obtain⟨cR,A,CQ⟩:=h_3 (ag cg.o bD lR) (bQ E.o bD y) (bQ v.o bD z2);clear bD c0 c1 d0 d1 d2 d3 d4 d5 x1 e2 x E v RU NR NQ wR y z2 g M;go_wp2
 go_loopw [5] (λi wr=>∃k:Nat,k<=r.bT.len/\i=.int .i64 k/\(∀j,j<k->kU s r.vars (r.bT.at j)=true)/\Below w2.heap.size w2 wr) (λi _=>r.bT.len-(intOf i).toNat)
 case atStart=>exact⟨0,aw _,rfl,λj hj=>ay hj (ax _),bR⟩
 case round=>
  obtain⟨k,H,rfl,u,G⟩:=hrel;have y:=(gE A.o).1;have z2:=(gE CQ.o).1;have l:=bQ A.o G y;have a:=bQ CQ.o G z2;have x:=ag cR.o G lR;have M:w.heap.size<=wr.heap.size:=x.size;obtain⟨dK,HB,xp⟩:=h_3 u G x;have c0:=cZ l;have c1:=eY l;have d1:=eY a;have d5:=cr5 a;have y1:w.heap.size<wr.heap.size:=af c0;have y2:w.heap.size+1<wr.heap.size:=af d1;clear u G y z2;by_cases bO:k<r.bT.len
  ·obtain⟨pb,T,E,q,D,he,C,f0,f1,f2,G⟩:=dC O.o x bO;cases he;have U:pb<wr.heap.size:=by omega
   have om:(k:Int)<(r.bT.len:Int):=by omega
   obtain⟨t,u⟩:=xE (r.bT.at k);have u9:Hd (kU s r.vars t=false->jO s r=false):=hI λh=>by rw[J9.o,wh bO (by rw[<-u];exact h)];rfl
   have R:Hd (kU s r.vars t=true->kU s r.vars (r.bT.at k)=true):=hI λh=>by rw[<-u];exact h
   rw[<-u]at f0 f1 f2 G;have f:Hd (∀d os,aH Tryz.prog 43 #[.agg #[.slice I s.cons.length cc,.slice (some ⟨b,off,none⟩) s.bj.length J],.agg #[.int .i64 t.a,.int .i64 t.n,.slice q t.k.len D]] (Go.Sort.grow (redrawn wr d) os) (.bool (dq s t))):=
    hI λd os=>Eg s t _ _ _ wr.heap.size (((Y.o.below x lR).mono M).below (below_regrown wr d os) lR) ⟨_,rfl,(G.mono M).below (below_regrown wr d os) lR⟩ (below_regrown wr d os).size
   have g:Hd (t.size<=400->∀d os,aH Tryz.prog 153 #[.agg #[.int .i64 t.a,.int .i64 t.n,.slice q t.k.len D]] (Go.Sort.grow (redrawn wr d) os) (.bool (Er t))):=
    hI λv d os=>Gc t _ _ wr.heap.size v ⟨_,rfl,(G.mono M).below (below_regrown wr d os) lR⟩ (below_regrown wr d os).size
   have v:Hd (∀d os,aH Tryz.prog 154 #[.agg #[.int .i64 t.a,.int .i64 t.n,.slice q t.k.len D],.int .i64 r.vars] (Go.Sort.grow (redrawn wr d) os) (.bool (ew (f_ r.vars) t))):=
    hI λd os=>yg r.vars _ t _ _ wr.heap.size lR ⟨_,rfl,(G.mono M).below (below_regrown wr d os) lR⟩ (below_regrown wr d os).size
   clear G u x l a;cases g5:dq s t
   case false=>
    have oV:kU s r.vars t=false:=by unfold kU;rw[g5];rfl
    rw[g5]at f;clear g5
    go_wp2_with fail
    refine aM (by kernel_rfl) (by kernel_rfl) ?_
    repeat go_big_quiet_step ((first|(with_reducible exact aH.quiet (f.o _ _))|fail))
    exact am4
   have g:=hI (g.o (by have:=pP g5;omega));cases g6:Er t
   case false=>
    have oV:kU s r.vars t=false:=by unfold kU;rw[g6];simp
    rw[g5]at f;rw[g6]at g;clear g5 g6
    go_wp2_with fail
    refine aM (by kernel_rfl) (by kernel_rfl) ?_
    repeat go_big_quiet_step ((first|(with_reducible exact aH.quiet (f.o _ _))|(with_reducible exact aH.quiet (g.o _ _))))
    exact am4
   cases g7:ew (f_ r.vars) t
   case false=>
    have oV:kU s r.vars t=false:=by unfold kU;rw[g7];simp
    rw[g5]at f;rw[g6]at g;rw[g7]at v;clear g5 g6 g7
    go_wp2_with fail
    refine aM (by kernel_rfl) (by kernel_rfl) ?_
    repeat go_big_quiet_step ((first|(with_reducible exact aH.quiet (f.o _ _))|(with_reducible exact aH.quiet (g.o _ _))|(with_reducible exact aH.quiet (v.o _ _))))
    exact am4
   have HY:=hI (R.o (by unfold kU;rw[g5,g6,g7];rfl));rw[g5]at f;rw[g6]at g;rw[g7]at v;clear g5 g6 g7
   go_wp2_with fail
   refine aM (by kernel_rfl) (by kernel_rfl) ?_
   repeat go_big_quiet_step ((first|(with_reducible exact aH.quiet (f.o _ _))|(with_reducible exact aH.quiet (g.o _ _))|(with_reducible exact aH.quiet (v.o _ _))))
   refine wpQuiet_nil ?_;intro w5 fQ;have jP:=hI (ag HB.o fQ lR);clear fQ c0 c1 d1 d5 f0 f1 f2;exact amS
  ·have fK:k=r.bT.len:=by omega
   subst fK;have D:r.bT.size<=160:=by
    have:=qY (F:=r.bT) (c:=40) λi hi=>by
     have h:=dK.o i hi;unfold kU at h;rw[ak,ak]at h;exact pP h.1.1
    omega
   have u:jO s r=(Gd r.bT&&ew (f_ r.vars) r.rhs&&pN r.rhs (cC ⟨0,0,r.bT⟩)):=by rw[J9.o,u_ dK.o];rfl
   have d2:=fu a;have d3:=xk a;have d4:=Za a;have C:=ox.o;have f:Hd (∀V,Below wr.heap.size wr V->aH Tryz.prog 155 #[.slice o r.bT.len p] V (.bool (Gd r.bT))):=hI λV m=>Jf r.bT _ V w.heap.size (by omega) (O.o.below (ag xp.o m lR) lR) (ag xp.o m lR).size;have g:Hd (∀V,Below wr.heap.size wr V->aH Tryz.prog 154 #[.agg #[.int .i64 r.rhs.a,.int .i64 r.rhs.n,.slice ka r.rhs.k.len kc],.int .i64 r.vars] V (.bool (ew (f_ r.vars) r.rhs))):=hI λV m=>yg r.vars _ r.rhs _ V w.heap.size lR ⟨_,rfl,P.o.below (ag xp.o m lR) lR⟩ (ag xp.o m lR).size;have v:Hd (∀d os,aH Tryz.prog 155 #[.slice o r.bT.len p] (Go.Sort.grow (redrawn wr d) os) (.bool (Gd r.bT))):=hI λd os=>f.o _ (below_regrown wr d os);have E:Hd (∀d os,aH Tryz.prog 154 #[.agg #[.int .i64 r.rhs.a,.int .i64 r.rhs.n,.slice ka r.rhs.k.len kc],.int .i64 r.vars] (Go.Sort.grow (redrawn wr d) os) (.bool (ew (f_ r.vars) r.rhs))):=hI λd os=>g.o _ (below_regrown wr d os);clear x l a c0 c1 y1;cases g5:Gd r.bT
   case false=>
    have xu:Hd (jO s r=false):=hI (by rw[u,g5];rfl);rw[g5]at v;clear g5 u D C
    go_wp2_with fail
    refine aM (by kernel_rfl) (by kernel_rfl) ?_
    repeat go_big_quiet_step ((first|(with_reducible exact aH.quiet (v.o _ _))))
    exact anK
   cases g6:ew (f_ r.vars) r.rhs
   case false=>
    have xu:Hd (jO s r=false):=hI (by rw[u,g6];simp);rw[g5]at v;rw[g6]at E;clear g5 g6 u D C
    go_wp2_with fail
    refine aM (by kernel_rfl) (by kernel_rfl) ?_
    repeat go_big_quiet_step ((first|(with_reducible exact aH.quiet (v.o _ _))|(with_reducible exact aH.quiet (E.o _ _))))
    exact anK
   have xu:Hd (jO s r=pN r.rhs (cC ⟨0,0,r.bT⟩)):=hI (by rw[u,g5,g6];rfl);rw[g5]at f;rw[g6]at g;have Nh:=hI (And.intro D C);have R:wr.cell? ⟨w.heap.size+1,1,none⟩=some (.slice o r.bT.len p)/\wr.cell? ⟨w.heap.size+1,2,none⟩=some (.int .i64 r.rhs.a)/\wr.cell? ⟨w.heap.size+1,3,none⟩=some (.int .i64 r.rhs.n)/\wr.cell? ⟨w.heap.size+1,4,none⟩=some (.slice ka r.rhs.k.len kc)/\wr.cell? ⟨w.heap.size+1,5,none⟩=some (.int .i64 r.vars):=⟨d1,d2,d3,d4,d5⟩;clear g5 g6 u D C d1 d2 d3 d4 d5 v E
   go_wp2_with fail
   refine wp_region_held_drew (S:=λV=>V.cell? ⟨w.heap.size+1,1,none⟩=some (.slice o r.bT.len p)/\V.cell? ⟨w.heap.size+1,2,none⟩=some (.int .i64 r.rhs.a)/\V.cell? ⟨w.heap.size+1,3,none⟩=some (.int .i64 r.rhs.n)/\V.cell? ⟨w.heap.size+1,4,none⟩=some (.slice ka r.rhs.k.len kc)/\V.cell? ⟨w.heap.size+1,5,none⟩=some (.int .i64 r.vars)) (by kernel_rfl) R (λhHeld=> ?_)
   change wpAnyH _ _ VA _ _ _ _ _ _
   refine kL (λZ=>Below wr.heap.size wr Z) (Below.ia bR) hHeld ?_;clear hHeld R;rintro V u hHeld;have ud:=hI u;clear u;refine qA 0 ⟨some 75,.fieldAddr 139 (.tmp 3) 1,0,cn,#[],none⟩ hHeld ?_;refine qA 1 ⟨some 76,.load 52 (.tmp 75),52,cn,#[aj 0],none⟩ hHeld ?_;refine qR 2 ⟨some 77,.call ⟨.value (.func 155),#[.tmp 76],#[52]⟩,4,cn,#[aj 1],none⟩ λK G=> ?_;go_simp;refine(f.o V ud.o).mono ?_;rintro e V2 ⟨rfl,bD⟩
   go_wp2_with fail
   have v:=Lb hHeld bD;refine qK G (v) λhHeld=> ?_;clear G K;have C:=hI (ag ud.o bD lR);clear bD v;refine qA 3 ⟨some 78,.move (.tmp 77),4,cn,#[aj 2,ao 2],none⟩ hHeld ?_;refine qA 4 ⟨some 79,.fieldAddr 139 (.tmp 3) 2,0,cn,#[a6 3],some (3,true)⟩ hHeld ?_;refine qA 5 ⟨some 80,.load 54 (.tmp 79),54,cn,#[aj 4,a6 3],some (3,true)⟩ hHeld ?_;refine qA 6 ⟨some 81,.fieldAddr 139 (.tmp 3) 3,0,cn,#[a6 3],some (3,true)⟩ hHeld ?_;refine qA 7 ⟨some 82,.load 3 (.tmp 81),3,cn,#[aj 6,a6 3],some (3,true)⟩ hHeld ?_;refine qR 8 ⟨some 83,.call ⟨.value (.func 154),#[.tmp 80,.tmp 82],#[54,3]⟩,4,cn,#[aj 5,aj 7,ao 3,a6 3],some (3,true)⟩ λK G=> ?_;go_simp;refine(g.o V2 C.o).mono ?_;rintro e V3 ⟨rfl,u⟩
   go_wp2_with fail
   have v:=Lb hHeld u;refine qK G (v) λhHeld=> ?_;clear G K;have R:=hI (ag C.o u lR);clear u v;refine qA 9 ⟨some 84,.pick (.tmp 78) (.tmp 83) (.const (.bool false)),4,cn,#[aj 3,aj 8],none⟩ hHeld ?_;refine qA 10 ⟨some 85,.move (.tmp 84),4,cn,#[aj 9,ao 8],none⟩ hHeld ?_;refine qA 11 ⟨some 86,.fieldAddr 139 (.tmp 3) 2,0,cn,#[a6 10],some (10,true)⟩ hHeld ?_;refine qA 12 ⟨some 87,.load 54 (.tmp 86),54,cn,#[aj 11,a6 10],some (10,true)⟩ hHeld ?_;refine qA 13 ⟨some 88,.fieldAddr 139 (.tmp 3) 1,0,cn,#[a6 10],some (10,true)⟩ hHeld ?_;refine qA 14 ⟨some 89,.load 52 (.tmp 88),52,cn,#[aj 13,a6 10],some (10,true)⟩ hHeld ?_;refine qR 15 ⟨some 90,.call ⟨.value (.func 157),#[.tmp 89],#[52]⟩,54,cn,#[aj 14,ao 10,a6 10],some (10,true)⟩ λK G=> ?_;go_simp;refine(B2 o r.bT.len p V3).mono ?_;rintro e V4 ⟨rfl,E⟩
   go_wp2_with fail
   have v:=Lb hHeld E;refine qK G (v) λhHeld=> ?_;clear G K;have u:=hI (ag R.o E lR);clear E v;refine qR 16 ⟨some 91,.call ⟨.value (.func 46),#[.tmp 90],#[54]⟩,74,cn,#[aj 15,ao 15,a6 10],some (10,true)⟩ λK G=> ?_;go_simp;refine(pL 391 ⟨0,0,r.bT⟩ _ V4 w.heap.size (by have:=Nh.o.1;show 1+r.bT.size<=391;omega) (by omega) ⟨_,rfl,O.o.below (ag xp.o u.o lR) lR⟩ (ag xp.o u.o lR).size).mono ?_;rintro e V5 ⟨vv,rfl,D,fQ⟩
   go_wp2_with fail
   have E:=Lb hHeld fQ;refine qK G (E) λhHeld=> ?_;clear G K;have v:=hI (ag u.o fQ lR);have T:=hI D;clear fQ E D;refine qR 17 ⟨some 92,.call ⟨.value (.func 156),#[.tmp 87,.tmp 91],#[54,74]⟩,4,cn,#[aj 12,aj 16,ao 16,a6 10],some (10,true)⟩ λK G=> ?_;go_simp;refine(La r.rhs (cC ⟨0,0,r.bT⟩) _ _ V5 V5.heap.size (by have:=Nh.o.2;omega) ⟨_,rfl,(P.o.below (ag xp.o v.o lR) lR).mono (ag xp.o v.o lR).size⟩ T.o lR).mono ?_;rintro e V6 ⟨rfl,U⟩
   go_wp2_with fail
   have D:=Lb hHeld U;refine qK G (D) λhHeld=> ?_;clear G K;have E:=hI (ag v.o U lR);clear U D;refine qA 18 ⟨some 93,.pick (.tmp 85) (.tmp 92) (.const (.bool false)),4,cn,#[aj 10,aj 17],none⟩ hHeld ?_;refine qR 19 ⟨some 4,.assign (.tmp 93),4,cn,#[aj 18,ao 17,al 0,al 1,al 2,al 3,al 4,al 5,al 6,al 7,al 8,al 9,al 10,al 11,al 12,al 13,al 14,al 15,al 16,al 17,al 18],none⟩ λK G=> ?_;go_simp;refine qK G (hHeld) λhHeld=> ?_;clear G K;refine wpAnyH_done (by kernel_rfl) ?_ _;clear hHeld;go_wp2;go_ret;exact⟨by rw[xu.o];rfl,ag xp.o E.o lR⟩
theorem mS:∀{bs:List ByteArray} {l:List sr},gK bs l=true->∀i,i<l.length->0<=(bS l i).args/\(bS l i).args<=4
 |_,[],_,i,hi=>ay hi (ax _)
 |bs,x::l,h,i,hi=>by
  rw[sM,ak,ak,ak]at h;cases i with
  |zero=>
   have:=h.1.2.2;unfold fX at this;rw[ak]at this;exact⟨bu this.1,bu this.2⟩
  |succ i=>exact mS (l:=l) h.2 i (by simpa using hi)
theorem RY(h:fA s=true):(∀i,i<s.cons.length->0<=(bS s.cons i).args/\(bS s.cons i).args<=4)/\∀i,i<s.bj.length->0<=(bS s.bj i).args/\(bS s.bj i).args<=4:=by
 unfold fA at h;rw[ak]at h;have a:=h.2;rw[oP,ak]at a;exact⟨mS a.1,mS a.2⟩
def ez(p:Pg):Bool:=fA p.sig&&decide (p.rules.length<=16)&&p.rules.all (jO p.sig)
theorem Ql{l:List oN}{p:oN->Bool}(a:k<l.length)(h:p (cQ l k)=false):l.all p=false:=by
 rw[b5];intro hc;have:=aK.1 hc (cQ l k) (by unfold cQ;rw[ae a];exact aR a);rw[h]at this;cases this
theorem Lc{l:List oN}{p:oN->Bool}(h:∀k,k<l.length->p (cQ l k)=true):l.all p=true:=by
 rw[aK];intro x b;obtain⟨k,a,rfl⟩:=bC.1 b;have:=h k a;unfold cQ at this;rwa [ae a]at this
theorem NS(p:Pg)(v:Value)(w:World)(B:Nat)(hp:I0 w B v p)(hB:B<=w.heap.size):aH Tryz.prog 24 #[v] w (.bool (ez p)):=by
 obtain⟨cv,fv,rv,rfl,hc,x,G⟩:=hp;have R:=G.small;obtain⟨l,cc,rfl⟩:=hc.slice;obtain⟨m,n,rfl⟩:=x.slice;obtain⟨z,rc,rfl⟩:=G.slice;obtain⟨W,a⟩:=xE (w.alloc (.cells #[.slice l p.sig.cons.length cc,.slice m p.sig.bj.length n,.slice z p.rules.length rc] 42));have f:Hd (Below w.heap.size w W):=hI (by rw[a];exact Below.cA w _);have u:Hd (W.heap[w.heap.size]? =some (.cells #[.slice l p.sig.cons.length cc,.slice m p.sig.bj.length n,.slice z p.rules.length rc] 42 (0,0))):=hI (by rw[a];exact a_ _ _);have E:Hd (ku w w.heap.size (.agg #[.slice l p.sig.cons.length cc,.slice m p.sig.bj.length n]) p.sig):=hI ⟨_,_,rfl,hc.mono hB,x.mono hB⟩;have o:Hd (∀V,Below w.heap.size w V->aH Tryz.prog 96 #[.agg #[.slice l p.sig.cons.length cc,.slice m p.sig.bj.length n]] V (.bool (fA p.sig))):=hI λV c=>RJ p.sig _ V w.heap.size (E.o.below c lR) c.size;have K:=hI (G.mono hB);have A:=hI a;clear hc x G a;unfold aH;have c0:=cZ u.o;have c1:=eY u.o;cases g1:fA p.sig
 case false=>
  have G:Hd (ez p=false):=hI (by unfold ez;rw[g1];rfl);rw[g1]at o;clear g1
  go_enter Tryz.func24,Tryz.ntmps24
  go_wp2_with fail
  rw[<-A.o];refine(o.o _ f.o).mono ?_;rintro e s ⟨rfl,a⟩;have t:=hI (ag f.o a lR);clear a c0 c1;go_wp2;go_ret;exact⟨by rw[G.o];rfl,t.o⟩
 have L:=hI (λi hi=>((RY g1).2 i hi).2);rw[g1]at o;by_cases g2:p.rules.length<=16
 case neg=>
  have F:decide ((16:Int)<(p.rules.length:Int))=true:=by simp;omega
  have G:Hd (ez p=false):=hI (by unfold ez;rw[aB g2];simp);clear g1 g2
  go_enter Tryz.func24,Tryz.ntmps24
  go_wp2_with fail
  rw[<-A.o];refine(o.o _ f.o).mono ?_;rintro e s ⟨rfl,a⟩;have t:=hI (ag f.o a lR);have H:s.cell? ⟨w.heap.size,2,none⟩=some (.slice z p.rules.length rc):=by rw[cell_of_row _ _ _ _ _ _ (cY a u.o)];rfl
  clear a c0 c1;go_wp2;go_ret;exact⟨by rw[G.o];rfl,t.o⟩
 have F:decide ((16:Int)<(p.rules.length:Int))=false:=by simp;omega
 have I:Hd (ez p=p.rules.all (jO p.sig)):=hI (by unfold ez;rw[g1,aI g2];rfl);clear g1 g2
 go_enter Tryz.func24,Tryz.ntmps24
 go_wp2_with fail
 rw[<-A.o];refine(o.o _ f.o).mono ?_;rintro e s ⟨rfl,a⟩;have t:=hI (ag f.o a lR);have c:=hI (cY a u.o);have H:=fu c.o;clear a c0 c1;go_wp2;clear F H
 go_loopw [3] (λi wr=>∃k:Nat,k<=p.rules.length/\i=.int .i64 k/\(∀j,j<k->jO p.sig (cQ p.rules j)=true)/\Below s.heap.size s wr) (λi _=>p.rules.length-(intOf i).toNat)
 case atStart=>exact⟨0,aw _,rfl,λj hj=>ay hj (ax _),bR⟩
 case round=>
  obtain⟨k,S,rfl,y,G⟩:=hrel;have D:=(gE c.o).1;have x:=bQ c.o G D;have g:=ag t.o G lR;have C:w.heap.size<=wr.heap.size:=g.size;obtain⟨dK,M,xp⟩:=h_3 y G g;have c0:=cZ x;have c1:=eY x;have c2:=fu x;have T:w.heap.size<wr.heap.size:=af c0;clear y G D x;by_cases J:k<p.rules.length
  ·obtain⟨b,off,cap,pp,N,q,O,he,U,r0,r1,r2,r3,r4,r5,D,G⟩:=zK K.o g J;cases he;have X:b<wr.heap.size:=by omega
   have Y:(k:Int)<(p.rules.length:Int):=by omega
   obtain⟨r,x⟩:=xE (cQ p.rules k);have P:Hd (jO p.sig r=false->ez p=false):=hI λh=>by rw[I.o];exact Ql J (by rw[<-x];exact h)
   have Q:Hd (jO p.sig r=true->jO p.sig (cQ p.rules k)=true):=hI λh=>by rw[<-x];exact h
   rw[<-x]at r0 r1 r2 r3 r4 r5 D G;have y:Hd (∀d os,aH Tryz.prog 97 #[.agg #[.slice l p.sig.cons.length cc,.slice m p.sig.bj.length n],.agg #[.int .i64 r.fn,.slice pp r.bT.len N,.int .i64 r.rhs.a,.int .i64 r.rhs.n,.slice q r.rhs.k.len O,.int .i64 r.vars]] (Go.Sort.grow (redrawn wr d) os) (.bool (jO p.sig r))):=
    hI λd os=>NP p.sig r _ _ _ wr.heap.size (((E.o.below g lR).mono C).below (below_regrown wr d os) lR) ⟨_,_,rfl,(D.mono C).below (below_regrown wr d os) lR,(G.mono C).below (below_regrown wr d os) lR⟩ (below_regrown wr d os).size L.o
   clear D G x g;cases g5:jO p.sig r
   case false=>
    have xu:=hI (P.o g5);rw[g5]at y;clear g5
    go_wp2_with fail
    refine aM (by kernel_rfl) (by kernel_rfl) ?_
    repeat go_big_quiet_step ((with_reducible exact aH.quiet (y.o _ _)))
    refine wpQuiet_nil ?_;intro x fQ;exact anP
   case true=>
    have HY:=hI (Q.o g5);rw[g5]at y;clear g5
    go_wp2_with fail
    refine aM (by kernel_rfl) (by kernel_rfl) ?_
    repeat go_big_quiet_step ((with_reducible exact aH.quiet (y.o _ _)))
    refine wpQuiet_nil ?_;intro x fQ;have jP:=hI (ag M.o fQ lR);clear fQ c0 c1 c2 r0 r1 r2 r3 r4 r5;exact amS
  ·have G:k=p.rules.length:=by omega
   subst G;have xu:Hd (ez p=true):=hI (by rw[I.o,Lc dK.o]);clear g;go_wp2;go_ret;exact⟨by rw[xu.o];rfl,xp.o⟩
def g_(F:Fo):Bool:=pO kX F&&decide (F.len<=6)
theorem Eu(F:Fo)(v:Value)(w:World)(B:Nat)(f:dr w B v F)(hB:B<=w.heap.size):aH Tryz.prog 92 #[v] w (.bool (g_ F)):=by
 have u:=f.small;obtain⟨x,sc,rfl⟩:=f.slice;have o:=hI (f.mono hB);clear f;unfold aH
 go_enter Tryz.func92,Tryz.ntmps92
 go_wp2
 go_loopw [3] (λi wr=>∃k:Nat,k<=F.len/\i=.int .i64 k/\(∀j,j<k->kX (F.at j)=true)/\Below w.heap.size w wr) (λi _=>F.len-(intOf i).toNat)
 case atStart=>exact⟨0,aw _,rfl,λj hj=>ay hj (ax _),bR⟩
 case round=>
  obtain⟨k,y,rfl,c,a⟩:=hrel;have dK:=hI c;have g:=hI a;clear c;by_cases m:k<F.len/\k<=6
  ·obtain⟨n,G⟩:=m;have q:decide ((k:Int)<=6)=true:=by simp;omega
   obtain⟨b,off,cap,p,z,he,A,f0,f1,f2,c⟩:=dC o.o a n;cases he;have d:=BW (F.at k) _ wr w.heap.size ⟨_,rfl,c⟩ a.size;have r:Hd (kX (F.at k)=false->g_ F=false):=hI λh=>by unfold g_;rw[wh n h];rfl
   have s:Hd (kX (F.at k)=true->kX (F.at k)=true):=hI id;have l:=hI d;clear c a d G;cases g5:kX (F.at k)
   case false=>
    have c:=hI (r.o g5);rw[g5]at l;clear g5
    go_wp2_with fail
    refine l.o.mono ?_;rintro e t ⟨rfl,d⟩;have jP:=hI (ag g.o d lR);clear d f0 f1 f2;go_wp2;go_ret;exact⟨by rw[c.o];rfl,jP.o⟩
   case true=>
    have HY:=hI (s.o g5);rw[g5]at l;clear g5
    go_wp2_with fail
    refine l.o.mono ?_;rintro e t ⟨rfl,d⟩;have jP:=hI (ag g.o d lR);clear d f0 f1 f2;exact amS
  ·clear a;by_cases n:k<F.len
   ·have q:decide ((k:Int)<=6)=false:=by simp;omega
    have d:decide ((F.len:Int)<=6)=false:=by simp;omega
    have c:Hd (g_ F=false):=hI (by unfold g_;rw[aB (by omega)];simp);clear m;go_wp2;go_ret;exact⟨by rw[c.o];rfl,g.o⟩
   ·have d:k=F.len:=by omega
    subst d;have c:Hd (g_ F=decide ((F.len:Int)<=6)):=hI (by
     unfold g_;rw[u_ dK.o,aU,decide_eq_decide];omega)
    clear m;go_wp2;go_ret;exact⟨by rw[c.o];rfl,g.o⟩
def jH(r:oN):Bool:=g_ r.bT&&kX r.rhs
def ig(p:Pg):Bool:=p.rules.all jH&&(fP p.sig&&decide (p.rules.length<=20))
theorem Ge(p:Pg)(v:Value)(w:World)(B:Nat)(hp:I0 w B v p)(hB:B<=w.heap.size):aH Tryz.prog 22 #[v] w (.bool (ig p)):=by
 obtain⟨cv,fv,rv,rfl,hc,d,G⟩:=hp;have S:=G.small;obtain⟨n,cc,rfl⟩:=hc.slice;obtain⟨o,s,rfl⟩:=d.slice;obtain⟨t,rc,rfl⟩:=G.slice;obtain⟨W,c⟩:=xE (w.alloc (.cells #[.slice n p.sig.cons.length cc,.slice o p.sig.bj.length s,.slice t p.rules.length rc] 42));have H:Hd (Below w.heap.size w W):=hI (by rw[c];exact Below.cA w _);have D:Hd (W.heap[w.heap.size]? =some (.cells #[.slice n p.sig.cons.length cc,.slice o p.sig.bj.length s,.slice t p.rules.length rc] 42 (0,0))):=hI (by rw[c];exact a_ _ _);have I:Hd (ku w w.heap.size (.agg #[.slice n p.sig.cons.length cc,.slice o p.sig.bj.length s]) p.sig):=hI ⟨_,_,rfl,hc.mono hB,d.mono hB⟩;have J:Hd (∀V,Below w.heap.size w V->aH Tryz.prog 93 #[.agg #[.slice n p.sig.cons.length cc,.slice o p.sig.bj.length s]] V (.bool (fP p.sig))):=hI λV a=>I9 p.sig _ V w.heap.size (I.o.below a lR) a.size;have K:=hI (G.mono hB);have L:=hI c;clear hc d G c;unfold aH
 go_enter Tryz.func22,Tryz.ntmps22
 go_wp2;rw[<-L.o]
 go_loopw [3] (λi wr=>∃k:Nat,k<=p.rules.length/\i=.int .i64 k/\(∀j,j<k->jH (cQ p.rules j)=true)/\Below W.heap.size W wr) (λi _=>p.rules.length-(intOf i).toNat)
 case atStart=>exact⟨0,aw _,rfl,λj hj=>ay hj (ax _),bR⟩
 case round=>
  obtain⟨k,T,rfl,f,d⟩:=hrel;have g:=(gE D.o).1;have G:=bQ D.o d g;have c:=ag H.o d lR;obtain⟨dK,M,xp,N⟩:=h_4 f d c G;have c0:=cZ G;have c1:=eY G;have c2:=fu G;clear f d g G;by_cases z:k<p.rules.length/\k<=20
  ·obtain⟨A,f⟩:=z;have O:decide ((k:Int)<=20)=true:=by simp;omega
   obtain⟨b,off,cap,pp,U,q,E,he,X,r0,r1,r2,r3,r4,r5,g,G⟩:=zK K.o c A;cases he;obtain⟨r,d⟩:=xE (cQ p.rules k);have F:Hd (jH r=false->ig p=false):=hI λh=>by unfold ig;rw[Ql A (by rw[<-d];exact h)];rfl
   have P:Hd (jH r=true->jH (cQ p.rules k)=true):=hI λh=>by rw[<-d];exact h
   rw[<-d]at r0 r1 r2 r3 r4 r5 g G;have u:=hI (Eu r.bT _ wr w.heap.size g c.size);have x:Hd (∀V,Below wr.heap.size wr V->aH Tryz.prog 28 #[.agg #[.int .i64 r.rhs.a,.int .i64 r.rhs.n,.slice q r.rhs.k.len E]] V (.bool (kX r.rhs))):=hI λV a=>BW r.rhs _ V w.heap.size ⟨_,rfl,G.below a c.size⟩ (ag c a lR).size;have C:b<wr.heap.size:=by have:=c.size;omega
   clear g G d c f;cases g5:g_ r.bT
   case false=>
    have xu:=hI (F.o (by unfold jH;rw[g5];rfl));rw[g5]at u;clear g5
    go_wp2_with fail
    refine u.o.mono ?_;rintro e d ⟨rfl,fQ⟩;exact anP
   rw[g5]at u;have Q:Hd (∀V,Below wr.heap.size wr V->V.cell? ⟨w.heap.size,2,none⟩=some (.slice (some ⟨b,off,none⟩) p.rules.length rc)/\V.cell? ⟨b,off+k*6+2,none⟩=some (.int .i64 r.rhs.a)/\V.cell? ⟨b,off+k*6+3,none⟩=some (.int .i64 r.rhs.n)/\V.cell? ⟨b,off+k*6+4,none⟩=some (.slice q r.rhs.k.len E)):=
    hI λV a=>⟨(a.cell (p:=⟨w.heap.size,2,none⟩) (by exact af c2)).trans c2,(a.cell (p:=⟨b,off+k*6+2,none⟩) C).trans r2,(a.cell (p:=⟨b,off+k*6+3,none⟩) C).trans r3,(a.cell (p:=⟨b,off+k*6+4,none⟩) C).trans r4⟩
   go_wp2_with fail
   refine u.o.mono ?_;rintro e R ⟨rfl,G⟩;obtain⟨f,g,l,m⟩:=Q.o R G;have y:=hI G;clear G c0 c1 c2 r0 r1 r2 r3 r4 r5;cases g6:kX r.rhs
   case false=>
    have xu:=hI (F.o (by unfold jH;rw[g6];simp));rw[g6]at x;clear g5 g6
    go_wp2_with fail
    refine(x.o _ y.o).mono ?_;rintro e d ⟨rfl,fQ⟩;have jP:=hI (ag (ag xp.o y.o lR) fQ lR);clear fQ f g l m;go_wp2;go_ret;exact⟨by rw[xu.o];rfl,jP.o⟩
   case true=>
    have HY:=hI (P.o (by unfold jH;rw[g5,g6];rfl));rw[g6]at x;clear g5 g6
    go_wp2_with fail
    refine(x.o _ y.o).mono ?_;rintro e d ⟨rfl,fQ⟩;have jP:=hI (ag (ag M.o y.o lR) fQ lR);clear fQ f g l m;exact amS
  ·have G:=hI (J.o wr c);have f:w.heap.size<wr.heap.size:=af c2;have m:=N;clear c;by_cases A:k<p.rules.length
   ·have O:decide ((k:Int)<=20)=false:=by simp;omega
    have l:decide ((p.rules.length:Int)<=20)=false:=by simp;omega
    have xu:Hd (ig p=false):=hI (by unfold ig;rw[aB (show ¬p.rules.length<=20 by omega)];simp);clear z
    go_wp2_with fail
    refine G.o.mono ?_;rintro e d ⟨rfl,fQ⟩;have g:d.cell? ⟨w.heap.size,2,none⟩=some (.slice t p.rules.length rc):=(fQ.cell (p:=⟨w.heap.size,2,none⟩) f).trans c2;have jP:=hI (ag xp.o fQ lR);clear fQ c0 c1 c2;cases g7:fP p.sig
    all_goals
     go_wp2;go_ret;exact⟨by rw[xu.o];rfl,jP.o⟩
   ·have l:k=p.rules.length:=by omega
    subst l;have xu:Hd (ig p=(fP p.sig&&decide ((p.rules.length:Int)<=20))):=hI (by
     unfold ig;rw[Lc dK.o,aU]
     congr 1
     rw[decide_eq_decide];omega)
    clear z
    go_wp2_with fail
    refine G.o.mono ?_;rintro e d ⟨rfl,fQ⟩;have g:d.cell? ⟨w.heap.size,2,none⟩=some (.slice t p.rules.length rc):=(fQ.cell (p:=⟨w.heap.size,2,none⟩) f).trans c2;have jP:=hI (ag xp.o fQ lR);clear fQ c0 c1 c2;cases g7:fP p.sig
    ·rw[g7]at xu;go_wp2;go_ret;exact⟨by rw[xu.o];rfl,jP.o⟩
    ·rw[g7]at xu;go_wp2;go_ret;exact⟨by rw[xu.o];rfl,jP.o⟩
def dA(ds:List fV)(v:Int)(a n:Int)(len:Nat):Bool:=
 if a=1 then decide (0<=n)&&decide (n<v)&&len==0
 else if a=2 then n==0&&len==0
 else if a=3 then n==0&&len==2
 else if a=4 then decide (0<=n)&&decide (n<ds.length)&&(len:Int)==(b8 ds n.toNat).params
 else false
theorem pQ{p:Int->Int->Nat->Bool}{t:Nd}(h:p t.a t.n t.k.len=false):ew p t=false:=by unfold ew;rw[h];rfl
theorem Ev(a:Int):a=1\/a=2\/a=3\/a=4\/((a==1)=false/\(a==2)=false/\(a==3)=false/\(a==4)=false):=by
 simp only[beq_eq_false_iff_ne,ne_eq];omega
theorem G9(ds:List fV)(vv:Int)(dv:Value):∀(m:Nat) (t:Nd) (v:Value) (w:World) (B:Nat),t.size<=m->eB w B dv ds->cV w B v t->B<=w.heap.size->
 aH Tryz.prog 227 #[dv,v,.int .i64 vv] w (.bool (ew (dA ds vv) t))
 |0,t,_,_,_,h,_,_,_=>ay h (by unfold Nd.size;omega)
 |m+1,t,v,w,B,hm,y,D,hB=>by
  obtain⟨sv,rfl,hs⟩:=D;have R:=hs.small;have E:=y.small;obtain⟨A,sc,rfl⟩:=hs.slice;have G:=G9 ds vv dv m;obtain⟨HI,HS,HM,HD⟩:=h_4 G (hs.mono hB) hm (y.mono hB);obtain⟨S,dc,rfl⟩:=y.slice;have cg:=hI (Below.cA w (.cells #[.int .i64 t.a,.int .i64 t.n,.slice A t.k.len sc] 26));clear G hs hm y;unfold aH;obtain⟨F,c⟩:∃a,a=t.a:=⟨_,rfl⟩;have r:=hI c.symm;rw[<-c]at cg |-;rcases Ev F with d|d|d|d|⟨H,I,J,K⟩
  ·have nZ:dA ds vv t.a t.n t.k.len=(decide (0<=t.n)&&decide (t.n<vv)&&t.k.len==0):=by unfold dA;rw[<-c,d];rfl
   subst d;clear c;by_cases c1:t.n<0
   ·have e1:decide (t.n<0)=true:=aI c1;have HV:Hd (ew (dA ds vv) t=false):=hI (pQ (by rw[nZ,aB (by omega)];rfl));clear c1 nZ;exact amK
   have e1:decide (t.n<0)=false:=aB c1;by_cases c2:vv<=t.n
   ·have z:decide (vv<=t.n)=true:=aI c2;have HV:Hd (ew (dA ds vv) t=false):=hI (pQ (by rw[nZ,aB (show ¬t.n<vv by omega)];simp));clear c1 c2 nZ;exact amK
   have z:decide (vv<=t.n)=false:=aB c2;rw[aI (show 0<=t.n by omega),aI (show t.n<vv by omega)]at nZ;by_cases c3:t.k.len=0
   ·have l:((t.k.len:Int) != 0)=false:=by simp[c3]
    have FU:Hd (dA ds vv t.a t.n t.k.len=true):=hI (by rw[nZ,c3];rfl);have G_:Hd ((0:Int)=(t.k.len:Int)):=hI (by rw[c3];rfl);clear c1 c2 c3 nZ;exact am_
   ·have l:((t.k.len:Int) != 0)=true:=by simp;omega
    have HV:Hd (ew (dA ds vv) t=false):=hI (pQ (by rw[nZ];simpa using c3));clear c1 c2 c3 nZ;exact amK
  ·have nZ:dA ds vv t.a t.n t.k.len=(t.n==0&&t.k.len==0):=by unfold dA;rw[<-c,d];rfl
   subst d;clear c;by_cases c1:t.n=0
   case neg=>
    exact aor
   have e1:(t.n != 0)=false:=jX c1;rw[b_.2 c1]at nZ;by_cases c3:t.k.len=0
   ·have l:((t.k.len:Int) != 0)=false:=by simp[c3]
    have FU:Hd (dA ds vv t.a t.n t.k.len=true):=hI (by rw[nZ,c3];rfl);have G_:Hd ((0:Int)=(t.k.len:Int)):=hI (by rw[c3];rfl);clear c1 c3 nZ;exact am_
   ·have l:((t.k.len:Int) != 0)=true:=by simp;omega
    exact aov
  ·have nZ:dA ds vv t.a t.n t.k.len=(t.n==0&&t.k.len==2):=by unfold dA;rw[<-c,d];rfl
   subst d;clear c;by_cases c1:t.n=0
   case neg=>
    exact aor
   have e1:(t.n != 0)=false:=jX c1;rw[b_.2 c1]at nZ;by_cases c3:t.k.len=2
   ·have l:((t.k.len:Int) != 2)=false:=by simp[c3]
    have FU:Hd (dA ds vv t.a t.n t.k.len=true):=hI (by rw[nZ,c3];rfl);have G_:Hd ((2:Int)=(t.k.len:Int)):=hI (by rw[c3];rfl);clear c1 c3 nZ
    go_enter Tryz.func227,Tryz.ntmps227
    go_wp2
    go_loopw [8] (λi wr=>∃k:Nat,k<=t.k.len/\i=.int .i64 k/\(∀j,j<k->ew (dA ds vv) (t.k.at j)=true)/\Below w.heap.size w wr/\wr.heap[w.heap.size]? =some (.cells #[.int .i64 t.a,.int .i64 t.n,.slice A t.k.len sc] 26 (0,0))) (λi _=>t.k.len-(intOf i).toNat)
    case atStart=>exact⟨0,aw _,rfl,λj hj=>ay hj (ax _),cg.o,by(try rw[s.o]);rw[r.o];exact a_ _ _⟩
    case round=>
     obtain⟨k,L,rfl,u,hb,hh⟩:=hrel;have c2:=fu hh;obtain⟨dK,HB,HH⟩:=h_3 u hb hh;clear u;by_cases bO:k<t.k.len
     ·have n:(k:Int)<2:=by rw[G_.o];omega
      exact amD
     ·have n:¬(k:Int)<2:=by rw[G_.o];omega
      exact anC
   ·have l:((t.k.len:Int) != 2)=true:=by simp;omega
    exact aov
  ·have nZ:dA ds vv t.a t.n t.k.len=(decide (0<=t.n)&&decide (t.n<ds.length)&&(t.k.len:Int)==(b8 ds t.n.toNat).params):=by unfold dA;rw[<-c,d];rfl
   subst d;clear c;by_cases c1:t.n<0
   ·have e1:decide (t.n<0)=true:=aI c1;have HV:Hd (ew (dA ds vv) t=false):=hI (pQ (by rw[nZ,aB (show ¬0<=t.n by omega)];rfl));clear c1 nZ;exact amK
   have e1:decide (t.n<0)=false:=aB c1;by_cases c2:(ds.length:Int)<=t.n
   ·have z:decide ((ds.length:Int)<=t.n)=true:=aI c2;have HV:Hd (ew (dA ds vv) t=false):=hI (pQ (by rw[nZ,aB (show ¬t.n<ds.length by omega)];simp));clear c1 c2 nZ;exact amK
   have z:decide ((ds.length:Int)<=t.n)=false:=aB c2;rw[aI (show 0<=t.n by omega),aI (show t.n<ds.length by omega)]at nZ;obtain⟨o,x⟩:∃o:Nat,t.n=o:=⟨t.n.toNat,by omega⟩;have M:o<ds.length:=by omega
   obtain⟨b0,T,N,U,O,C,P,_,x1,_,_,_⟩:=iR HD.o cg.o M;cases C;obtain⟨q,g⟩:=xE ((b8 ds o).params);have f:=x;rw[x,bw,<-g]at nZ;rw[x]at cg x1 e1 z |-;rw[<-g]at x1;have Q:(o:Int)<(ds.length:Int):=by omega
   have V:decide (ds.length<=o)=false:=aB (by omega);have W:¬ds.length<=o:=by omega
   by_cases c3:(t.k.len:Int)=q
   ·have l:((t.k.len:Int) != q)=false:=jX c3;have FU:Hd (dA ds vv t.a t.n t.k.len=true):=hI (by rw[f,nZ];simpa using c3);have G_:Hd (q=(t.k.len:Int)):=hI c3.symm;have s:=hI f;clear c1 c2 c3 nZ x g f
    go_enter Tryz.func227,Tryz.ntmps227
    go_wp2
    go_loopw [8] (λi wr=>∃k:Nat,k<=t.k.len/\i=.int .i64 k/\(∀j,j<k->ew (dA ds vv) (t.k.at j)=true)/\Below w.heap.size w wr/\wr.heap[w.heap.size]? =some (.cells #[.int .i64 t.a,.int .i64 t.n,.slice A t.k.len sc] 26 (0,0))) (λi _=>t.k.len-(intOf i).toNat)
    case atStart=>exact⟨0,aw _,rfl,λj hj=>ay hj (ax _),cg.o,by(try rw[s.o]);rw[r.o];exact a_ _ _⟩
    case round=>
     obtain⟨k,L,rfl,u,hb,hh⟩:=hrel;have c2:=fu hh;obtain⟨dK,HB,HH⟩:=h_3 u hb hh;clear u;by_cases bO:k<t.k.len
     ·have n:(k:Int)<q:=by rw[G_.o];omega
      exact amD
     ·have n:¬(k:Int)<q:=by rw[G_.o];omega
      exact anC
   ·have l:((t.k.len:Int) != q)=true:=gy c3;have HV:Hd (ew (dA ds vv) t=false):=hI (pQ (by rw[f,nZ];simpa using c3));clear c1 c2 c3 nZ x g f;exact amK
  ·have HV:Hd (ew (dA ds vv) t=false):=hI (pQ (by
    unfold dA;rw[<-c,ah (by simpa using H),ah (by simpa using I),ah (by simpa using J),ah (by simpa using K)]))
   clear c
   go_enter Tryz.func227,Tryz.ntmps227
   go_wp2;go_ret;exact⟨by rw[HV.o];rfl,cg.o⟩
def dB(ds:List fV)(v:Int)(t:Nd):Bool:=decide (t.size<=20)&&ew (dA ds v) t
theorem xx(ds:List fV)(vv:Int)(t:Nd)(dv v:Value)(w:World)(B:Nat)(c:eB w B dv ds)(d:cV w B v t)(hB:B<=w.heap.size):
 aH Tryz.prog 189 #[dv,v,.int .i64 vv] w (.bool (dB ds vv t)):=by
 have g:Hd (∀W,Below w.heap.size w W->aH Tryz.prog 227 #[dv,v,.int .i64 vv] W (.bool (ew (dA ds vv) t))):=hI λW G=>G9 ds vv dv _ t v W w.heap.size lR ((c.mono hB).below G lR) ((d.mono hB).below G lR) G.size;have HW:Hd (∀W,Below w.heap.size w W->aH Tryz.prog 170 #[v,.int .i64 ((20:Nat):Int)] W (.int .i64 (rz t.size 20))):=hI λW G=>rA _ t 20 v W w.heap.size lR (by omega) ((d.mono hB).below G lR) G.size;obtain⟨j,dc,rfl⟩:=c.slice;obtain⟨kv,rfl,f⟩:=d;obtain⟨ka,kc,rfl⟩:=f.slice;obtain⟨W,b⟩:=xE (w.alloc (.cells #[.int .i64 t.a,.int .i64 t.n,.slice ka t.k.len kc] 26));have cg:Hd (Below w.heap.size w W):=hI (by rw[b];exact Below.cA w _);have i:Hd (W.heap[w.heap.size]? =some (.cells #[.int .i64 t.a,.int .i64 t.n,.slice ka t.k.len kc] 26 (0,0))):=hI (by rw[b];exact a_ _ _);have wR:=hI b;clear c f b;unfold aH;by_cases a:t.size<=20
 case neg=>
  have HV:Hd (dB ds vv t=false):=hI (by unfold dB;rw[aB a];rfl);rw[v_ a]at HW;clear a
  go_enter Tryz.func189,Tryz.ntmps189
  exact aos
 have HV:Hd (dB ds vv t=ew (dA ds vv) t):=hI (by unfold dB;rw[aI a];rfl);rw[sN a]at HW;obtain⟨q,G⟩:=xE (20-t.size);rw[<-G]at HW;clear a G
 go_enter Tryz.func189,Tryz.ntmps189
 go_wp2_with fail
 rw[<-wR.o];refine(HW.o _ cg.o).mono ?_;rintro e w2 ⟨rfl,bD⟩;have cR:=hI (ag cg.o bD lR);have G:=cY bD i.o;have d0:=cZ G;have d1:=eY G;have d2:=fu G;clear bD G
 go_wp2_with fail
 refine(g.o _ cR.o).mono ?_;rintro e b ⟨rfl,G⟩;have a:=hI (ag cR.o G lR);clear G;go_wp2;go_ret;exact⟨by rw[HV.o];rfl,a.o⟩
theorem Ew(ds:List fV)(t:Nd)(dv v:Value)(w:World)(B:Nat)(a:eB w B dv ds)(c:cV w B v t)(hB:B<=w.heap.size):
 aH Tryz.prog 133 #[dv,v] w (.bool (dB ds 20 t)):=by
 have g:Hd (∀W,Below w.heap.size w W->aH Tryz.prog 189 #[dv,v,.int .i64 20] W (.bool (dB ds 20 t))):=hI λW b=>xx ds 20 t dv v W w.heap.size ((a.mono hB).below b lR) ((c.mono hB).below b lR) b.size;obtain⟨i,dc,rfl⟩:=a.slice;obtain⟨kv,rfl,d⟩:=c;obtain⟨ka,kc,rfl⟩:=d.slice;have f:=hI (Below.cA w (.cells #[.int .i64 t.a,.int .i64 t.n,.slice ka t.k.len kc] 26));clear a d;unfold aH
 go_enter Tryz.func133,Tryz.ntmps133
 go_wp2_with fail
 refine(g.o _ f.o).mono ?_;rintro e j ⟨rfl,b⟩;have d:=hI (ag f.o b lR);clear b;go_wp2;go_ret;exact⟨rfl,d.o⟩
theorem Ld(ds:List fV)(t:Nd)(dv v:Value)(w:World)(B:Nat)(a:eB w B dv ds)(c:cV w B v t)(hB:B<=w.heap.size):
 aH Tryz.prog 56 #[dv,v] w (.bool (dB ds 20 t)):=by
 have g:Hd (∀W,Below w.heap.size w W->aH Tryz.prog 133 #[dv,v] W (.bool (dB ds 20 t))):=hI λW b=>Ew ds t dv v W w.heap.size ((a.mono hB).below b lR) ((c.mono hB).below b lR) b.size;obtain⟨i,dc,rfl⟩:=a.slice;obtain⟨kv,rfl,d⟩:=c;obtain⟨ka,kc,rfl⟩:=d.slice;have f:=hI (Below.cA w (.cells #[.int .i64 t.a,.int .i64 t.n,.slice ka t.k.len kc] 26));clear a d;unfold aH
 go_enter Tryz.func56,Tryz.ntmps56
 go_wp2_with fail
 refine(g.o _ f.o).mono ?_;rintro e j ⟨rfl,b⟩;have d:=hI (ag f.o b lR);clear b;go_wp2;go_ret;exact⟨rfl,d.o⟩
def rR(t:Nd):Bool:=decide (t.size<=26)
def kN(F:Fo):Bool:=decide (F.len<=6)&&pO rR F
def jV(d:fV):Bool:=decide (d.name.size<=20)&&decide (d.cons.length<=15)&&d.cons.all kN
def dZ(ds:List fV):Bool:=decide (ds.length<=8)&&ds.all jV
theorem aar{p:fV->Bool}(a:k<l.length)(h:p (b8 l k)=false):l.all p=false:=by
 rw[b5];intro hc;have:=aK.1 hc (b8 l k) (by unfold b8;rw[ae a];exact aR a);rw[h]at this;cases this
theorem VB{p:fV->Bool}(h:∀k,k<l.length->p (b8 l k)=true):l.all p=true:=by
 rw[aK];intro x b;obtain⟨k,a,rfl⟩:=bC.1 b;have:=h k a;unfold b8 at this;rwa [ae a]at this
theorem Qm{l:List Fo}{p:Fo->Bool}(a:k<l.length)(h:p (dD l k)=false):l.all p=false:=by
 rw[b5];intro hc;have:=aK.1 hc (dD l k) (by unfold dD;rw[ae a];exact aR a);rw[h]at this;cases this
theorem Le{l:List Fo}{p:Fo->Bool}(h:∀k,k<l.length->p (dD l k)=true):l.all p=true:=by
 rw[aK];intro x b;obtain⟨k,a,rfl⟩:=bC.1 b;have:=h k a;unfold dD at this;rwa [ae a]at this
theorem ve(ds:List fV)(dv:Value)(w:World)(B:Nat)(v:eB w B dv ds)(hB:B<=w.heap.size):aH Tryz.prog 127 #[dv] w (.bool (dZ ds)):=by
 have Z:=v.small;have HD:=hI (v.mono hB);obtain⟨da,dc,rfl⟩:=v.slice;clear v;unfold aH;by_cases g1:ds.length<=8
 case neg=>
  have O:decide ((8:Int)<(ds.length:Int))=true:=by simp;omega
  have o:Hd (dZ ds=false):=hI (by unfold dZ;rw[aB g1];rfl);clear g1
  go_enter Tryz.func127,Tryz.ntmps127
  go_wp2;go_ret;exact⟨by rw[o.o];rfl,bR⟩
 have O:decide ((8:Int)<(ds.length:Int))=false:=by simp;omega
 have P:Hd (dZ ds=ds.all jV):=hI (by unfold dZ;rw[aI g1];rfl)
 go_enter Tryz.func127,Tryz.ntmps127
 go_wp2;clear O
 go_loopw [3,4,5] (λi _ _ wr=>∃k:Nat,k<=ds.length/\i=.int .i64 k/\(∀j,j<k->jV (b8 ds j)=true)/\Below w.heap.size w wr) (λi _ _ _=>ds.length-(intOf i).toNat)
 case atStart=>exact⟨0,aw _,rfl,λj c=>ay c (ax _),bR⟩
 case round=>
  obtain⟨k,hk,rfl,o,x⟩:=hrel;have Q:=hI o;have f:=hI x;clear o;by_cases R:k<ds.length
  ·obtain⟨b,off,cap,p,S,he,fF,d0,d1,d2,g,uT⟩:=iR HD.o x R;cases he;obtain⟨d,o⟩:=xE (b8 ds k);have E:Hd (jV d=false->dZ ds=false):=hI λh=>by rw[P.o];exact aar R (by rw[<-o];exact h)
   have yn:Hd (jV d=true->jV (b8 ds k)=true):=hI λh=>by rw[<-o];exact h
   rw[<-o]at d0 d1 d2 g uT;have kH:=g.small;clear o x;by_cases g2:d.name.size<=20
   case neg=>
    have T:decide ((20:Int)<(d.name.size:Int))=true:=by simp;omega
    have a:=hI (E.o (by unfold jV;rw[aB g2];rfl));clear g2 g;go_wp2;go_ret;exact⟨by rw[a.o];rfl,f.o⟩
   have T:decide ((20:Int)<(d.name.size:Int))=false:=by simp;omega
   by_cases g3:d.cons.length<=15
   case neg=>
    have U:decide ((15:Int)<(d.cons.length:Int))=true:=by simp;omega
    have a:=hI (E.o (by unfold jV;rw[aB g3];simp));clear g2 g3 g;go_wp2;go_ret;exact⟨by rw[a.o];rfl,f.o⟩
   have U:decide ((15:Int)<(d.cons.length:Int))=false:=by simp;omega
   have m:Hd (jV d=d.cons.all kN):=hI (by unfold jV;rw[aI g2,aI g3];rfl);have T_:=hI (g.mono f.o.size);have iK:=hI d2;have zb:b<wr.heap.size:=af d2;clear g2 g3 g;go_wp2;obtain⟨y,rfl⟩:∃y:World,y=wr:=⟨_,rfl⟩;clear T U d0 d1 d2
   go_loopw [4,5] (λi _ wr=>∃q:Nat,q<=d.cons.length/\i=.int .i64 q/\(∀j,j<q->kN (dD d.cons j)=true)/\Below y.heap.size y wr) (λi _ _=>d.cons.length-(intOf i).toNat)
   case atStart=>exact⟨0,aw _,rfl,λj c=>ay c (ax _),bR⟩
   case round=>
    obtain⟨q,hq,rfl,l,g⟩:=hrel;have n:=hI l;have A:=hI g;have d2:wr.cell? ⟨b,off+k*3+2,none⟩=some (.slice p d.cons.length S):=(g.cell (p:=⟨b,off+k*3+2,none⟩) zb).trans iK.o;clear l;by_cases V:q<d.cons.length
    ·obtain⟨C,fo,NT,fp,Zg,he,hfB,f0,l⟩:=mq T_.o g V;cases he;obtain⟨F,o⟩:=xE (dD d.cons q);have r:Hd (kN F=false->dZ ds=false):=hI λh=>E.o (by rw[m.o];exact Qm V (by rw[<-o];exact h));have G:Hd (kN F=true->kN (dD d.cons q)=true):=hI λh=>by rw[<-o];exact h
     rw[<-o]at f0 l;have su:=l.small;have zf:C<wr.heap.size:=af f0;by_cases g4:F.len<=6
     case neg=>
      have W:decide ((6:Int)<(F.len:Int))=true:=by simp;omega
      have a:=hI (r.o (by unfold kN;rw[aB g4];rfl));clear g4 l o g;go_wp2;go_ret;exact⟨by rw[a.o];rfl,ag f.o A.o lR⟩
     have W:decide ((6:Int)<(F.len:Int))=false:=by simp;omega
     have X:Hd (kN F=pO rR F):=hI (by unfold kN;rw[aI g4];rfl);obtain⟨H,VC,I⟩:=h_3 (l.mono g.size) f0 d2;have J:b<wr.heap.size:=af d2;clear g4 l o g;go_wp2;obtain⟨s,rfl⟩:∃s:World,s=wr:=⟨_,rfl⟩;clear W f0 d2
     go_loopw [5] (λi wr=>∃z:Nat,z<=F.len/\i=.int .i64 z/\(∀j,j<z->rR (F.at j)=true)/\Below s.heap.size s wr) (λi _=>F.len-(intOf i).toNat)
     case atStart=>exact⟨0,aw _,rfl,λj c=>ay c (ax _),bR⟩
     case round=>
      obtain⟨z,hz,rfl,o,l⟩:=hrel;have t:=hI o;have K:=hI l;have d2:wr.cell? ⟨b,off+k*3+2,none⟩=some (.slice (some ⟨C,fo,none⟩) d.cons.length S):=(l.cell (p:=⟨b,off+k*3+2,none⟩) J).trans I.o;have f0:wr.cell? ⟨C,fo+q,none⟩=some (.slice fp F.len Zg):=(l.cell (p:=⟨C,fo+q,none⟩) zf).trans VC.o;clear o;by_cases Y:z<F.len
      ·obtain⟨tb,to,akc,tp,L,he,htB,t0,t1,t2,o⟩:=dC H.o l Y;cases he;have u:=xo (F.at z) _ wr s.heap.size ⟨_,rfl,o⟩ l.size;have M:Hd (rR (F.at z)=false->dZ ds=false):=hI λh=>r.o (by rw[X.o];exact wh Y h);have u:aH Tryz.prog 124 #[.agg #[.int .i64 (F.at z).a,.int .i64 (F.at z).n,.slice tp (F.at z).k.len L]] wr (.bool (rR (F.at z))):=u;have D:=hI u;clear o l u;cases g5:rR (F.at z)
       case false=>
        have a:=hI (M.o g5);rw[g5]at D;clear g5
        go_wp2_with fail
        refine D.o.mono ?_;rintro e w5 ⟨rfl,o⟩;have N:=hI (ag (ag (ag f.o A.o lR) K.o lR) o lR);clear o t0 t1 t2 d2 f0;go_wp2;go_ret;exact⟨by rw[a.o];rfl,N.o⟩
       case true=>
        have u:=hI g5;rw[g5]at D;clear g5
        go_wp2_with fail
        refine D.o.mono ?_;rintro e w5 ⟨rfl,o⟩;have N:=hI (ag K.o o lR);clear o t0 t1 t2 d2 f0;go_wp2
        go_roundw
        case rel=>exact⟨z+1,by omega,by go_num,λj c=>if h:j=z then h ▸ u.o else t.o j (by omega),N.o⟩
        case measure=>simp[intOf];omega
      ·have o:z=F.len:=by omega
       subst o;have u:=hI (G.o (by rw[X.o];exact u_ t.o));clear l;go_wp2
       go_roundw
       case rel=>exact⟨q+1,by omega,by go_num,λj c=>if h:j=q then h ▸ u.o else n.o j (by omega),ag A.o K.o lR⟩
       case measure=>simp[intOf];omega
    ·have o:q=d.cons.length:=by omega
     subst o;have u:=hI (yn.o (by rw[m.o];exact Le n.o));clear g;go_wp2
     go_roundw
     case rel=>exact⟨k+1,by omega,by go_num,λj c=>if h:j=k then h ▸ u.o else Q.o j (by omega),ag f.o A.o lR⟩
     case measure=>simp[intOf];omega
  ·have o:k=ds.length:=by omega
   subst o;have a:=hI (show dZ ds=true by rw[P.o];exact VB Q.o);clear x;go_wp2;go_ret;exact⟨by rw[a.o];rfl,f.o⟩
def vg:ByteArray:={ data:= #[66,111,111,108]}
def Ex(d:fV):Bool:=decide (d.name=vg)&&d.params==0&&d.cons.length==2&&(dD d.cons 0).len+(dD d.cons 1).len==0
def gM(d:fV):Bool:=eV d.name&&decide (0<=d.params)&&decide (d.params<=3)&&decide (1<=d.cons.length)
def pR(ds:List fV)(v:Int)(F:Fo):Bool:=decide (F.len<=4)&&pO (dB ds v) F
def pS(ds:List fV):List ByteArray->Nat->List fV->Bool
 |_,_,[]=>true
 |ns,c,d::l=>gM d&& !nF ns d.name&&decide (c+d.cons.length<=12)&&d.cons.all (pR ds d.params)&&pS ds (ns++[d.name]) (c+d.cons.length) l
def dg(ds:List fV):Bool:=decide (1<=ds.length)&&decide (ds.length<=6)&&Ex (b8 ds 0)&&pS ds [] 0 ds
def Ni(l:List fV)(k:Nat):List ByteArray:=(l.take k).map (·.name)
def xy(l:List fV)(k:Nat):Nat:=((l.take k).map (·.cons.length)).sum
theorem Qn{j:Nat}(a:j<k)(b:k<=l.length):uR (Ni l k) j=(b8 l j).name:=by
 unfold uR Ni b8;rw[List.getElem?_map,List.getElem?_take,aq a,ae (by omega)]
 rfl
theorem Qo(a:k<=l.length):(Ni l k).length=k:=by simp[Ni];omega
theorem Ey(ds:List fV)(ns:List ByteArray)(c:Nat)(d:fV)(l:List fV):pS ds ns c (d::l)=(gM d&& !nF ns d.name&&decide (c+d.cons.length<=12)&&d.cons.all (pR ds d.params)&&pS ds (ns++[d.name]) (c+d.cons.length) l):=rfl
theorem RZ{ds:List fV}(h:k<l.length):pS ds (Ni l k) (xy l k) (l.drop k)=
 (gM (b8 l k)&& !nF (Ni l k) (b8 l k).name&&decide (xy l k+(b8 l k).cons.length<=12)&&(b8 l k).cons.all (pR ds (b8 l k).params)&&pS ds (Ni l (k+1)) (xy l (k+1)) (l.drop (k+1))):=by
 have e:b8 l k=l[k]:=by unfold b8;rw[ae h];rfl
 have a:Ni l (k+1)=Ni l k++[l[k].name]:=by unfold Ni;rw[aV h,bA];rfl
 have b:xy l (k+1)=xy l k+l[k].cons.length:=by unfold xy;rw[aV h,bA,List.sum_append];simp
 rw[bI h,Ey,e,a,b]
theorem zU(l:List fV):xy l 0=0:=rfl
theorem zV(h:k<l.length):xy l (k+1)=xy l k+(b8 l k).cons.length:=by
 have e:b8 l k=l[k]:=by unfold b8;rw[ae h];rfl
 unfold xy;rw[aV h,bA,List.sum_append,e];simp
theorem tT(ds:List fV)(dv:Value)(w:World)(B:Nat)(E:eB w B dv ds)(hB:B<=w.heap.size):aH Tryz.prog 132 #[dv] w (.bool (dg ds)):=by
 have hdm:=E.small;have HDW:=hI (E.mono hB);have HD:=hI (E.mono hB);obtain⟨da,dc,rfl⟩:=E.slice;clear E;unfold aH;by_cases g1:1<=ds.length
 case neg=>
  have m:decide ((ds.length:Int)<1)=true:=by simp;omega
  have HV:Hd (dg ds=false):=hI (by unfold dg;rw[aB g1];rfl);clear g1;exact anr
 have m:decide ((ds.length:Int)<1)=false:=by simp;omega
 by_cases g2:ds.length<=6
 case neg=>
  have H:decide ((6:Int)<(ds.length:Int))=true:=by simp;omega
  have HV:Hd (dg ds=false):=hI (by unfold dg;rw[aB g2];simp);clear g1 g2;exact anr
 have H:decide ((6:Int)<(ds.length:Int))=false:=by simp;omega
 obtain⟨b,off,cap,p,S,he,fF,d0,d1,d2,f,uT⟩:=iR HD.o bR (k:=0) (by omega);cases he;rw[Nat.zero_mul,Nat.add_zero]at d0 d1 d2;obtain⟨d,u⟩:=xE (b8 ds 0);rw[<-u]at d0 d1 d2 f uT;have kH:=f.small;have zb:b<w.heap.size:=af d2;have i0:(0:Int)<(ds.length:Int):=by omega
 have a:dg ds=(decide (d.name=vg)&&d.params==0&&d.cons.length==2&&(dD d.cons 0).len+(dD d.cons 1).len==0&&pS ds [] 0 ds):=by
  unfold dg Ex;rw[aI g1,aI g2,<-u]
  rfl
 clear u;have g:vg.toList=[66,111,111,108]:=by rw[ByteArray.toList_eq];rfl
 by_cases g3:d.name=vg
 case neg=>
  have I:(d.name.toList==[66,111,111,108])=false:=by rw[<-g,sL];exact aB g3
  have HV:Hd (dg ds=false):=hI (by rw[a,aB g3];rfl);clear g1 g2 g3 a f g;exact amI
 have I:(d.name.toList==[66,111,111,108])=true:=by rw[<-g,sL];exact aI g3
 rw[aI g3,aU]at a;clear g3 g;by_cases g4:d.params=0
 case neg=>
  have J:(d.params != 0)=true:=gy g4;have HV:Hd (dg ds=false):=hI (by rw[a,beq_eq_false_iff_ne.2 g4];rfl);clear g1 g2 g4 a f;exact amI
 have J:(d.params != 0)=false:=jX g4;rw[b_.2 g4,aU]at a;clear g4;by_cases g5:d.cons.length=2
 case neg=>
  have e5:((d.cons.length:Int) != 2)=true:=by simp;omega
  have HV:Hd (dg ds=false):=hI (by rw[a,beq_eq_false_iff_ne.2 g5];rfl);clear g1 g2 g5 a f;exact amI
 have e5:((d.cons.length:Int) != 2)=false:=by simp;omega
 rw[b_.2 g5,aU]at a;obtain⟨v,fo,NT,fp,Zg,he,K,x0,t⟩:=mq f bR (k:=0) (by omega);cases he;obtain⟨fb',fo',alC,fp',alL,he,s,x1,O⟩:=mq f bR (k:=1) (by omega);cases he;rw[Nat.add_zero]at x0;have n:=t.small;have o:=O.small;have zf:v<w.heap.size:=af x0;have i2:(0:Int)<(d.cons.length:Int):=by omega
 have i3:(1:Int)<(d.cons.length:Int):=by omega
 obtain⟨L0,G⟩:∃l,l=(dD d.cons 0).len:=⟨_,rfl⟩;obtain⟨L1,g⟩:∃l,l=(dD d.cons 1).len:=⟨_,rfl⟩;rw[<-G]at x0 n;rw[<-g]at x1 o;rw[<-G,<-g]at a;clear t O f G g g5;by_cases g6:L0+L1=0
 case neg=>
  have e6:((L0:Int)+(L1:Int) != 0)=true:=by simp;omega
  have HV:Hd (dg ds=false):=hI (by rw[a,beq_eq_false_iff_ne.2 g6];rfl);clear g1 g2 g6 a;exact amI
 have e6:((L0:Int)+(L1:Int) != 0)=false:=by simp;omega
 rw[b_.2 g6,aU]at a;have HDB:=hI a;have HG:=hI (And.intro g1 g2);clear a g1 g2 g6
 go_enter Tryz.func132,Tryz.ntmps132
 go_wp2_with fail
 refine aM (by kernel_rfl) (by kernel_rfl) ?_
 repeat go_big_quiet_step (fail)
 refine wpQuiet_nil ?_;intro w2 bD;have P9:=hI bD;clear bD d0 d1 d2 x0 x1 m H I J e5 e6 i0 i2 i3 n o zb zf fF K s kH uT;go_wp2
 go_loopw [3,4,5,6,7,8] (λc i _ _ _ _ wr=>∃k:Nat,k<=ds.length/\i=.int .i64 k/\c=.int .i64 (xy ds k:Nat)/\xy ds k<=12/\dg ds=pS ds (Ni ds k) (xy ds k) (ds.drop k)/\Below w.heap.size w wr) (λ_ i _ _ _ _ _=>ds.length-(intOf i).toNat)
 case atStart=>exact⟨0,aw _,rfl,rfl,by rw[zU];omega,HDB.o,P9.o⟩
 case round=>
  obtain⟨k,T,rfl,rfl,akf,heq,A⟩:=hrel;have HB:=hI A;by_cases bO:k<ds.length
  ·obtain⟨b,off,cap,p,S,he,fF,d0,d1,d2,f,uT⟩:=iR HD.o A bO;cases he;have a:=heq.trans (RZ bO);have n:=zV bO;have alM:k<=6:=by have:=HG.o.2;omega
   obtain⟨d,u⟩:=xE (b8 ds k);rw[<-u]at d0 d1 d2 f uT a n;have kH:=f.small;obtain⟨c,hc⟩:=xE (xy ds k);rw[<-hc]at a n akf |-;obtain⟨C,G⟩:=xE (wr.alloc (.cells #[.string d.name,.int .i64 d.params,.slice p d.cons.length S] 186));have BV:=hI G;have ir:Hd (Below w.heap.size w C):=hI (by rw[G];exact ag A (Below.cA wr _) lR);have HQ:Hd (C.heap[wr.heap.size]? =some (.cells #[.string d.name,.int .i64 d.params,.slice p d.cons.length S] 186 (0,0))):=hI (by rw[G];exact a_ _ _);have Qp:Hd (wr.heap.size<=C.heap.size):=hI (by rw[G];simp);have T_:Hd (lS C w.heap.size (.slice p d.cons.length S) d.cons):=hI (by rw[G];exact f.below (Below.cA wr _) A.size);clear u A heq f hc G;cases g:eV d.name
   case false=>
    have HF:Hd (dg ds=false):=hI (by rw[a];unfold gM;rw[g];rfl);have N1:=hI g;clear g a n;exact amQ
   have N1:=hI g;by_cases o:0<=d.params
   case neg=>
    have H:decide (d.params<0)=true:=by simp;omega
    have HF:Hd (dg ds=false):=hI (by rw[a];unfold gM;rw[aB o];simp);clear g o a n;exact amQ
   have H:decide (d.params<0)=false:=by simp;omega
   by_cases r:d.params<=3
   case neg=>
    have I:decide (3<d.params)=true:=by simp;omega
    have HF:Hd (dg ds=false):=hI (by rw[a];unfold gM;rw[aB r];simp);clear g o r a n;exact amQ
   have I:decide (3<d.params)=false:=by simp;omega
   by_cases s:1<=d.cons.length
   case neg=>
    have J:decide ((d.cons.length:Int)<1)=true:=by simp;omega
    have HF:Hd (dg ds=false):=hI (by rw[a];unfold gM;rw[aB s];simp);clear g o r s a n;exact amQ
   have J:decide ((d.cons.length:Int)<1)=false:=by simp;omega
   have U:Hd (dg ds=(!nF (Ni ds k) d.name&&decide (c+d.cons.length<=12)&&d.cons.all (pR ds d.params)&&pS ds (Ni ds (k+1)) (xy ds (k+1)) (ds.drop (k+1)))):=hI (by
    rw[a];unfold gM;rw[g,aI o,aI r,aI s];rfl)
   have HSU:=hI n;clear g o r s a n;obtain⟨qb,t⟩:∃q,q=wr.heap.size:=⟨_,rfl⟩;rw[<-t]at HQ Qp;have HZ0:Hd (w.heap.size<=qb):=hI (by rw[t];exact HB.o.size);have G:=hI t;clear t
   go_wp2_with (go_at_call 188;refine(lq _ _ uT).mono ?_;rintro e w' ⟨rfl,dR⟩;rw[dR,N1.o];clear dR w')
   rw[<-BV.o,<-G.o];clear H I J d0 d1 d2 BV G HB
   go_loopw [6] (λj G=>∃q:Nat,q<=k/\j=.int .i64 q/\(∀i,i<q->(b8 ds i).name≠d.name)/\Below C.heap.size C G) (λj _=>k-(intOf j).toNat)
   case atStart=>exact⟨0,aw _,rfl,λi hi=>ay hi (ax _),bR⟩
   case round=>
    obtain⟨q,hq,rfl,eC,L⟩:=hrel;have GS:=hI eC;have yV:=hI L;have V:=ag ir.o L lR;have G:=cY L HQ.o;have HQ7:=hI G;have xp:=hI V;clear eC;by_cases M:q<k
    ·obtain⟨n,r,D,N,P,he,_,x0,_,_,_,_⟩:=iR HD.o V (k:=q) (by omega);cases he;have s:=cZ G;have zb:b<wr.heap.size:=af x0;have zq:qb<wr.heap.size:=af s;have t:(q:Int)<(ds.length:Int):=by omega
     clear L V G;by_cases g:(b8 ds q).name=d.name
     ·have m:((b8 ds q).name.toList==d.name.toList)=true:=by rw[sL];exact aI g
      have HF:Hd (dg ds=false):=hI (by rw[U.o,KO (i:=q) (by rw[Qo T];exact M) (by rw[Qn M T];exact g)];rfl);clear g
      go_wp2_with fail
      refine aM (by kernel_rfl) (by kernel_rfl) ?_
      repeat go_big_quiet_step (fail)
      refine wpQuiet_nil ?_;intro w8 a;have o:=hI (ag xp.o a lR);clear a x0 s;go_wp2;go_ret;exact⟨by rw[HF.o];rfl,o.o⟩
     ·have m:((b8 ds q).name.toList==d.name.toList)=false:=by rw[sL];exact aB g
      have O:=hI g;clear g
      go_wp2_with fail
      refine aM (by kernel_rfl) (by kernel_rfl) ?_
      repeat go_big_quiet_step (fail)
      refine wpQuiet_nil ?_;intro w8 a;have o:=hI (ag yV.o a lR);clear a x0 s;go_wp2
      go_roundw
      case rel=>exact⟨q+1,by omega,by go_num,λi hi=>if h:i=q then h ▸ O.o else GS.o i (by omega),o.o⟩
      case measure=>simp[intOf];omega
    ·have hqe:q=k:=by omega
     subst hqe;have s:=P7 (l:=Ni ds q) (x:=d.name) λi hi=>by
      rw[Qo T]at hi;rw[Qn hi T];exact GS.o i hi
     have n:=fu G;rw[s]at U;have aht:c+d.cons.length<=9223372036854775807:=by omega
     clear L V G s;by_cases g:c+d.cons.length<=12
     case neg=>
      have m:decide ((12:Int)<(c:Int)+(d.cons.length:Int))=true:=by simp;omega
      have HF:Hd (dg ds=false):=hI (by rw[U.o,aB g];rfl);clear g;go_wp2;go_ret;exact⟨by rw[HF.o];rfl,xp.o⟩
     have m:decide ((12:Int)<(c:Int)+(d.cons.length:Int))=false:=by simp;omega
     have dE:Hd (dg ds=(d.cons.all (pR ds d.params)&&pS ds (Ni ds (q+1)) (xy ds (q+1)) (ds.drop (q+1)))):=hI (by rw[U.o,aI g];rfl);have H12:=hI g;clear g;go_wp2;clear m n;obtain⟨W,rfl⟩:∃W:World,W=wr:=⟨_,rfl⟩
     go_loopw [7,8] (λi _ wr=>∃z:Nat,z<=d.cons.length/\i=.int .i64 z/\(∀j,j<z->pR ds d.params (dD d.cons j)=true)/\Below W.heap.size W wr) (λi _ _=>d.cons.length-(intOf i).toNat)
     case atStart=>exact⟨0,aw _,rfl,λi hi=>ay hi (ax _),bR⟩
     case round=>
      obtain⟨z,hz,rfl,t,D⟩:=hrel;have dK:=hI t;have oI:=hI D;have my:=ag xp.o D lR;have s:=cY D HQ7.o;have HQ4:=hI s;have g:=hI my;have n:=fu s;have X:=eY s;have r:=(T_.o.below (ag yV.o D lR) (ai HZ0.o Qp.o));have zq:qb<wr.heap.size:=af n;clear t s;by_cases N:z<d.cons.length
      ·obtain⟨v,fo,NT,fp,Zg,he,K,f0,s⟩:=mq r bR N;cases he;obtain⟨F,t⟩:=xE (dD d.cons z);have u9:Hd (pR ds d.params F=false->dg ds=false):=hI λh=>by rw[dE.o,Qm N (by rw[<-t];exact h)];rfl
       have yn:Hd (pR ds d.params F=true->pR ds d.params (dD d.cons z)=true):=hI λh=>by rw[<-t];exact h
       rw[<-t]at f0 s;have su:=s.small;have zf:v<wr.heap.size:=af f0;clear t D my r;by_cases O:F.len<=4
       case neg=>
        have m:decide ((4:Int)<(F.len:Int))=true:=by simp;omega
        have HF:=hI (u9.o (by unfold pR;rw[aB O];rfl));clear O s;go_wp2;go_ret;exact⟨by rw[HF.o];rfl,g.o⟩
       have m:decide ((4:Int)<(F.len:Int))=false:=by simp;omega
       have J_:Hd (pR ds d.params F=pO (dB ds d.params) F):=hI (by unfold pR;rw[aI O];rfl);have HFF:=hI s;have VC:=hI f0;clear O s;go_wp2;clear m f0 X n;obtain⟨Y,rfl⟩:∃Y:World,Y=wr:=⟨_,rfl⟩
       go_loopw [8] (λi wr=>∃y:Nat,y<=F.len/\i=.int .i64 y/\(∀j,j<y->dB ds d.params (F.at j)=true)/\Below Y.heap.size Y wr) (λi _=>F.len-(intOf i).toNat)
       case atStart=>exact⟨0,aw _,rfl,λi hi=>ay hi (ax _),bR⟩
       case round=>
        obtain⟨y,hy,rfl,O,s⟩:=hrel;have P:=hI O;have Q:=hI s;have R:=ag g.o s lR;have t:=cY s HQ4.o;have akg:=hI R;have n:=fu t;have X:=eY t;have f0:wr.cell? ⟨v,fo+z,none⟩=some (.slice fp F.len Zg):=(s.cell (p:=⟨v,fo+z,none⟩) zf).trans VC.o;have zq6:qb<wr.heap.size:=af n;have zf6:v<wr.heap.size:=af f0;clear O t;by_cases Zi:y<F.len
        ·obtain⟨tb,to,akc,tp,tpc,he,htB,t0,t1,t2,t⟩:=dC (HFF.o.below s (by have:=g.o.size;omega)) bR Zi;cases he;have zt:tb<wr.heap.size:=af t0;have hzI:(z:Int)<(d.cons.length:Int):=by omega
         have hyI:(y:Int)<(F.len:Int):=by omega
         have zW:=R.size;have Z:Hd (∀O os,aH Tryz.prog 189 #[.slice (some ⟨b,off,none⟩) ds.length dc,.agg #[.int .i64 (F.at y).a,.int .i64 (F.at y).n,.slice tp (F.at y).k.len tpc],.int .i64 d.params] (Go.Sort.grow (redrawn wr O) os) (.bool (dB ds d.params (F.at y)))):=
          hI λO os=>xx ds d.params (F.at y) _ _ _ wr.heap.size (((HDW.o.below R lR).mono zW).below (below_regrown wr O os) lR) ⟨_,rfl,(t.mono zW).below (below_regrown wr O os) lR⟩ (below_regrown wr O os).size
         have aas:Hd (dB ds d.params (F.at y)=false->dg ds=false):=hI λh=>u9.o (by rw[J_.o];exact wh Zi h);clear t s R;cases g5:dB ds d.params (F.at y)
         case false=>
          have HF:=hI (aas.o g5);rw[g5]at Z;clear g5
          go_wp2_with fail
          refine aM (by kernel_rfl) (by kernel_rfl) ?_
          repeat go_big_quiet_step ((with_reducible exact aH.quiet (Z.o _ _)))
          refine wpQuiet_nil ?_;intro w8 a;have o:=hI (ag akg.o a lR);clear a X n f0 t0 t1 t2;go_wp2;go_ret;exact⟨by rw[HF.o];rfl,o.o⟩
         case true=>
          have t:=hI g5;rw[g5]at Z;clear g5
          go_wp2_with fail
          refine aM (by kernel_rfl) (by kernel_rfl) ?_
          repeat go_big_quiet_step ((with_reducible exact aH.quiet (Z.o _ _)))
          refine wpQuiet_nil ?_;intro w8 a;have o:=hI (ag Q.o a lR);clear a X n f0 t0 t1 t2;go_wp2
          go_roundw
          case rel=>exact⟨y+1,by omega,by go_num,λi hi=>if h:i=y then h ▸ t.o else P.o i (by omega),o.o⟩
          case measure=>simp[intOf];omega
        ·have a:y=F.len:=by omega
         subst a;have t:=hI (yn.o (by rw[J_.o];exact u_ P.o));clear s R;go_wp2
         go_roundw
         case rel=>exact⟨z+1,by omega,by go_num,λi hi=>if h:i=z then h ▸ t.o else dK.o i (by omega),ag oI.o Q.o lR⟩
         case measure=>simp[intOf];omega
      ·have s:z=d.cons.length:=by omega
       subst s;have O:Hd (dg ds=pS ds (Ni ds (q+1)) (xy ds (q+1)) (ds.drop (q+1))):=hI (by rw[dE.o,Le dK.o];rfl);have t:Hd (xy ds (q+1)=c+d.cons.length):=hI HSU.o;clear D my r;go_wp2
       go_roundw
       case rel=>exact⟨q+1,by omega,by go_num,by rw[t.o];go_num,by rw[t.o];exact H12.o,O.o,g.o⟩
       case measure=>simp[intOf];omega
  ·have G:k=ds.length:=by omega
   have HF:Hd (dg ds=true):=hI (by rw[heq,G,List.drop_length];rfl);clear heq A;go_wp2;go_ret;exact⟨by rw[HF.o];rfl,HB.o⟩
def tU(d:fV):List Int:=d.cons.map λF=>(F.len:Int)
def fB(ds:List fV):List Int:=ds.flatMap tU
def nJ(ds:List fV)(i k:Nat):List Int:=fB (ds.take i)++(tU (b8 ds i)).take k
theorem mU(d:fV):(tU d).length=d.cons.length:=by unfold tU;simp
theorem EA(ds:List fV)(i:Nat):nJ ds i 0=fB (ds.take i):=by unfold nJ;simp
theorem yo{ds:List fV}(h:k<(b8 ds i).cons.length):nJ ds i (k+1)=nJ ds i k++[((dD (b8 ds i).cons k).len:Int)]:=by
 unfold nJ;rw[aG,aV (by simpa [tU] using h)]
 congr 2
 simp[tU,dD,h]
theorem yp{ds:List fV}(h:i<ds.length):nJ ds i (b8 ds i).cons.length=fB (ds.take (i+1)):=by
 unfold nJ fB;rw[aV h,List.flatMap_append,List.take_of_length_le (Nat.le_of_eq (mU _))];have e:b8 ds i=ds[i]:=by unfold b8;rw[ae h];rfl
 rw[e];simp
theorem EB{ds:List fV}(h:i<ds.length)(a:k<(b8 ds i).cons.length):∃rest,fB ds=nJ ds i k++((dD (b8 ds i).cons k).len:Int)::rest:=by
 have b:fB ds=fB (ds.take (i+1))++fB (ds.drop (i+1)):=by unfold fB;rw[<-List.flatMap_append,List.take_append_drop]
 have c:nJ ds i (b8 ds i).cons.length=nJ ds i (k+1)++(tU (b8 ds i)).drop (k+1):=by
  unfold nJ;rw[aG,List.take_append_drop,List.take_of_length_le (Nat.le_of_eq (mU _))]
 refine⟨(tU (b8 ds i)).drop (k+1)++fB (ds.drop (i+1)),?_⟩;rw[b,<-yp h,c,yo a];simp
def dx(l:List sr):List Int:=l.map (·.args)
def iy(m:Md):Bool:=dg m.bH&&ez m.prog&&decide (fB m.bH=dx m.prog.sig.cons)
theorem Ha{l:List sr}(h:n<l.length):dx (l.take (n+1))=dx (l.take n)++[(bS l n).args]:=by
 unfold dx bS;rw[aV h,bA,ae h];rfl
theorem NV{l:List sr}(h:n<l.length):dx l=dx (l.take n)++(bS l n).args::dx (l.drop (n+1)):=by
 have:l=l.take n++l[n]::l.drop (n+1):=by rw[<-bI h,List.take_append_drop]
 conv=>lhs;rw[this]
 unfold dx bS;rw[bA,bz,ae h];rfl
theorem Ji{ds:List fV}{l:List sr}(hi:i<ds.length)(c:k<(b8 ds i).cons.length)(hp:nJ ds i k=dx (l.take n))(e:n<=l.length)(h:n<l.length->(bS l n).args≠((dD (b8 ds i).cons k).len:Int)):fB ds≠dx l:=by
 intro he;obtain⟨rest,d⟩:=EB hi c;rw[d,hp]at he;by_cases b:n<l.length
 ·rw[NV b]at he;have:=List.append_cancel_left he;injection this with a _;exact h b a.symm
 ·have a:n=l.length:=by omega
  rw[a,bE]at he;have:=congrArg List.length he;simp at this
theorem Lg{ds:List fV}{l:List sr}(hp:fB ds=dx (l.take n))(c:n<=l.length):decide (fB ds=dx l)=(n==l.length):=by
 by_cases h:n=l.length
 ·rw[h,bE]at hp;rw[aI hp,h];simp
 ·have a:(dx (l.take n)).length=n:=by simp[dx];omega
  have b:(dx l).length=l.length:=by simp[dx]
  rw[aB λe=>h (by rw[<-a,<-b,<-hp,e])];exact(beq_eq_false_iff_ne.2 h).symm
def jl(m:Md):Bool:=dZ m.bH&&ig m.prog
theorem CR(m:Md)(v:Value)(w:World)(B:Nat)(hm:jM w B v m)(hB:B<=w.heap.size):aH Tryz.prog 100 #[v] w (.bool (jl m)):=by
 obtain⟨dv,cv,fv,rv,rfl,c,hc,d,f⟩:=hm;obtain⟨g,dc,rfl⟩:=c.slice;obtain⟨i,cc,rfl⟩:=hc.slice;obtain⟨j,k,rfl⟩:=d.slice;obtain⟨l,rc,rfl⟩:=f.slice;obtain⟨W,a⟩:=xE (w.alloc (.cells #[.slice g m.bH.length dc,.slice i m.prog.sig.cons.length cc,.slice j m.prog.sig.bj.length k,.slice l m.prog.rules.length rc] 50));have cg:Hd (Below w.heap.size w W):=hI (by rw[a];exact Below.cA w _);have n:Hd (W.heap[w.heap.size]? =some (.cells #[.slice g m.bH.length dc,.slice i m.prog.sig.cons.length cc,.slice j m.prog.sig.bj.length k,.slice l m.prog.rules.length rc] 50 (0,0))):=hI (by rw[a];exact a_ _ _);have b:Hd (∀V,Below w.heap.size w V->aH Tryz.prog 127 #[.slice g m.bH.length dc] V (.bool (dZ m.bH))):=hI λV G=>ve m.bH _ V w.heap.size ((c.mono hB).below G lR) G.size;have p:Hd (∀V,Below w.heap.size w V->aH Tryz.prog 22 #[.agg #[.slice i m.prog.sig.cons.length cc,.slice j m.prog.sig.bj.length k,.slice l m.prog.rules.length rc]] V (.bool (ig m.prog))):=hI λV G=>Ge m.prog _ V w.heap.size ⟨_,_,_,rfl,(hc.mono hB).below G lR,(d.mono hB).below G lR,(f.mono hB).below G lR⟩ G.size;have o:=hI a;clear c hc d f a;unfold aH;have c0:=cZ n.o;cases g1:dZ m.bH
 case false=>
  have HV:Hd (jl m=false):=hI (by unfold jl;rw[g1];rfl);rw[g1]at b;clear g1
  go_enter Tryz.func100,Tryz.ntmps100
  go_wp2_with fail
  rw[<-o.o];refine(b.o _ cg.o).mono ?_;exact anO
 have HV:Hd (jl m=ig m.prog):=hI (by unfold jl;rw[g1];rfl);rw[g1]at b;clear g1
 go_enter Tryz.func100,Tryz.ntmps100
 go_wp2_with fail
 rw[<-o.o];refine(b.o _ cg.o).mono ?_;rintro e w2 ⟨rfl,bD⟩;have cR:=hI (ag cg.o bD lR);have G:=cY bD n.o;have d1:=eY G;have d2:=fu G;have d3:=xk G;clear bD c0 G
 go_wp2_with fail
 refine(p.o _ cR.o).mono ?_;exact anp
theorem Bl(m:Md)(v:Value)(w:World)(B:Nat)(hm:jM w B v m)(hB:B<=w.heap.size):aH Tryz.prog 120 #[v] w (.bool (iy m)):=by
 obtain⟨dv,cv,fv,rv,rfl,l,hc,c,o⟩:=hm;have D:=l.small;have RF:=hc.small;obtain⟨E,F,H,Zj⟩:=h_4 (l.mono hB) (hc.mono hB) (c.mono hB) (o.mono hB);obtain⟨I,dc,rfl⟩:=l.slice;obtain⟨J,cc,rfl⟩:=hc.slice;obtain⟨K,M,rfl⟩:=c.slice;obtain⟨N,rc,rfl⟩:=o.slice;clear l hc c o;obtain⟨W,j⟩:=xE (w.alloc (.cells #[.slice I m.bH.length dc,.slice J m.prog.sig.cons.length cc,.slice K m.prog.sig.bj.length M,.slice N m.prog.rules.length rc] 50));have cg:Hd (Below w.heap.size w W):=hI (by rw[j];exact Below.cA w _);have q:Hd (W.heap[w.heap.size]? =some (.cells #[.slice I m.bH.length dc,.slice J m.prog.sig.cons.length cc,.slice K m.prog.sig.bj.length M,.slice N m.prog.rules.length rc] 50 (0,0))):=hI (by rw[j];exact a_ _ _);have f:Hd (∀V,Below w.heap.size w V->aH Tryz.prog 132 #[.slice I m.bH.length dc] V (.bool (dg m.bH))):=hI λV G=>tT m.bH _ V w.heap.size (E.o.below G lR) G.size;have g:Hd (∀V,Below w.heap.size w V->aH Tryz.prog 24 #[.agg #[.slice J m.prog.sig.cons.length cc,.slice K m.prog.sig.bj.length M,.slice N m.prog.rules.length rc]] V (.bool (ez m.prog))):=hI λV G=>NS m.prog _ V w.heap.size ⟨_,_,_,rfl,F.o.below G lR,H.o.below G lR,Zj.o.below G lR⟩ G.size;have r:=hI j;clear j;unfold aH;have c0:=cZ q.o;cases g1:dg m.bH
 case false=>
  have HV:Hd (iy m=false):=hI (by unfold iy;rw[g1];rfl);rw[g1]at f;clear g1
  go_enter Tryz.func120,Tryz.ntmps120
  go_wp2_with fail
  rw[<-r.o];refine(f.o _ cg.o).mono ?_;exact anO
 have Y:=hI g1;rw[g1]at f;clear g1
 go_enter Tryz.func120,Tryz.ntmps120
 go_wp2_with fail
 rw[<-r.o];refine(f.o _ cg.o).mono ?_;rintro e w2 ⟨rfl,bD⟩;have cR:=hI (ag cg.o bD lR);have G:=cY bD q.o;have o:=hI G;have d1:=eY G;have d2:=fu G;have d3:=xk G;clear bD c0 G;cases g2:ez m.prog
 case false=>
  have HV:Hd (iy m=false):=hI (by unfold iy;rw[Y.o,g2];rfl);rw[g2]at g;clear g2
  go_wp2_with fail
  refine(g.o _ cR.o).mono ?_;exact anp
 have HV:Hd (iy m=decide (fB m.bH=dx m.prog.sig.cons)):=hI (by unfold iy;rw[Y.o,g2];rfl);rw[g2]at g;clear g2
 go_wp2_with fail
 refine(g.o _ cR.o).mono ?_;rintro e w3 ⟨rfl,cP⟩;have fT:=hI (ag cR.o cP lR);have s:=cY cP o.o;have O:=hI s;clear cP s d1 d2 d3 o;go_wp2;obtain⟨c,j⟩:∃d,d=m.bH:=⟨_,rfl⟩;obtain⟨G,l⟩:∃d,d=m.prog.sig.cons:=⟨_,rfl⟩;rw[<-j]at HV E O D;rw[<-l]at HV F O RF;clear j l f g q r
 go_loopw [3,4,5] (λn i _ wr=>∃a b:Nat,a<=c.length/\b<=G.length/\i=.int .i64 a/\n=.int .i64 b/\fB (c.take a)=dx (G.take b)/\Below w3.heap.size w3 wr) (λ_ i _ _=>c.length-(intOf i).toNat)
 case atStart=>exact⟨0,0,aw _,aw _,rfl,rfl,rfl,bR⟩
 case round=>
  obtain⟨a,b,ha,Z,rfl,rfl,heq,g⟩:=hrel;obtain⟨ye,ir,t,u⟩:=h_4 heq g (cY g O.o) (ag fT.o g lR);have c0:=cZ t.o;have c1:=eY t.o;have zq:w.heap.size<wr.heap.size:=af c0;clear heq g;by_cases bO:a<c.length
  ·have o:=hI bO;have alN:(a:Int)<(c.length:Int):=by omega
   go_wp2;obtain⟨z,l⟩:∃z:World,z=wr:=⟨_,rfl⟩;rw[<-l]at ir t u;rw[<-l];clear l c0 c1 zq
   go_loopw [3,5] (λn k wr=>∃x y:Nat,x<=(b8 c a).cons.length/\y<=G.length/\k=.int .i64 x/\n=.int .i64 y/\nJ c a x=dx (G.take y)/\Below z.heap.size z wr) (λ_ k _=>(b8 c a).cons.length-(intOf k).toNat)
   case atStart=>exact⟨0,b,aw _,Z,rfl,rfl,by rw[EA];exact ye.o,bR⟩
   case round=>
    obtain⟨x,y,hx,hy,rfl,rfl,heq,g⟩:=hrel;obtain⟨j,Lh,Hb⟩:=h_3 heq g (cY g t.o);have l:=ag u.o g lR;have P:=hI l;have c0:=cZ Hb.o;have c1:=eY Hb.o;have zq:w.heap.size<wr.heap.size:=af c0;obtain⟨db,dof,akh,p,pc,he,hdB,d0,d1,d2,A,q⟩:=iR E.o l o.o;cases he;have kH:=A.small;have zd:db<wr.heap.size:=af d2;obtain⟨L,r⟩:=xE ((b8 c a).cons.length);rw[<-r]at d2 kH hx;have f:Hd (L=(b8 c a).cons.length):=hI r;clear heq g l q d0 d1;by_cases C:x<L
    ·obtain⟨fb,fo,NT,fp,Zg,he,hfB,f0,q⟩:=mq A bR (k:=x) (by rw[<-r];exact C);cases he;have su:=q.small;have zf:fb<wr.heap.size:=af f0;obtain⟨Q,l⟩:∃L,L=(dD (b8 c a).cons x).len:=⟨_,rfl⟩;rw[<-l]at f0 su;have HQ:=hI l;clear q A r l;by_cases R:y<G.length
     ·obtain⟨nb,no,ahk,he,hnB,q,S,l⟩:=fJ F.o P.o R;cases he;have zn:nb<wr.heap.size:=af S;have e0:decide (G.length<=y)=false:=by simp;omega
      have alO:(y:Int)<(G.length:Int):=by omega
      have T:(x:Int)<(L:Int):=by omega
      clear q l;by_cases eC:(bS G y).args=(Q:Int)
      case neg=>
       have U:((bS G y).args != (Q:Int))=true:=gy eC;have q:Hd (iy m=false):=hI (by
        rw[HV.o];exact aB (Ji (i:=a) (k:=x) (n:=y) o.o (by rw[<-f.o];exact C) j.o (by omega) λ_=>by rw[<-HQ.o];exact eC))
       clear eC
       go_wp2_with fail
       refine aM (by kernel_rfl) (by kernel_rfl) ?_
       repeat go_big_quiet_step (fail)
       refine wpQuiet_nil ?_;intro w8 l;have s:=hI (ag P.o l lR);clear l c0 c1 d2 f0 S;go_wp2;go_ret;exact⟨by rw[q.o];rfl,s.o⟩
      have U:((bS G y).args != (Q:Int))=false:=jX eC;have X:Hd (nJ c a (x+1)=dx (G.take (y+1))):=hI (by rw[yo (by rw[<-f.o];exact C),j.o,Ha R,eC,HQ.o]);clear eC
      go_wp2_with fail
      refine aM (by kernel_rfl) (by kernel_rfl) ?_
      repeat go_big_quiet_step (fail)
      refine wpQuiet_nil ?_;intro w8 l;have s:=hI (ag Lh.o l lR);clear l c0 c1 d2 f0 S;go_wp2
      go_roundw
      case rel=>exact⟨x+1,y+1,by rw[<-f.o];omega,by omega,by go_num,by go_num,X.o,s.o⟩
      case measure=>rw[<-f.o];simp[intOf];omega
     ·have e0:decide (G.length<=y)=true:=by simp;omega
      have q:Hd (iy m=false):=hI (by
       rw[HV.o];exact aB (Ji (i:=a) (k:=x) (n:=y) o.o (by rw[<-f.o];exact C) j.o hy λh=>ay h R))
      have T:(x:Int)<(L:Int):=by omega
      go_wp2_with fail
      refine aM (by kernel_rfl) (by kernel_rfl) ?_
      repeat go_big_quiet_step (fail)
      refine wpQuiet_nil ?_;intro w8 l;have s:=hI (ag P.o l lR);clear l c0 c1 d2 f0;go_wp2;go_ret;exact⟨by rw[q.o];rfl,s.o⟩
    ·have l:x=L:=by omega
     have X:Hd (fB (c.take (a+1))=dx (G.take y)):=hI (by rw[<-yp o.o,<-f.o,<-l];exact j.o);subst l;clear A r;go_wp2
     go_roundw
     case rel=>exact⟨a+1,y,by have:=o.o;omega,hy,by go_num,rfl,X.o,ag ir.o Lh.o lR⟩
     case measure=>have:=o.o;simp[intOf];omega
  ·have o:a=c.length:=by omega
   have q:Hd (iy m=(b==G.length)):=hI (by
    rw[HV.o];exact Lg (by have:=ye.o;rw[o,bE]at this;exact this) Z)
   subst o;by_cases l:b=G.length
   ·have U:((b:Int)==(G.length:Int))=true:=by simp[l]
    have j:Hd (iy m=true):=hI (by rw[q.o,l];simp);subst l;go_wp2;go_ret;exact⟨by rw[j.o];first|rfl|simp,u.o⟩
   ·have U:((b:Int)==(G.length:Int))=false:=by simp;omega
    have j:Hd (iy m=false):=hI (by rw[q.o];exact beq_eq_false_iff_ne.2 l);go_wp2;go_ret;exact⟨by rw[j.o];first|rfl|(simp;omega),u.o⟩
end
section
def vh(p:Pg)(i k:Nat):Bool:=p.rules.any λr=>r.fn==(i:Int)&&r.rhs.one.calls k
def fg(p:Pg):Nat->Nat->Bool:=AQ p.sig.bj.length (vh p)
def eA(p:Pg):List (List Nat):=IN (fg p) p.sig.bj.length
theorem mV{a n:Int}{len:Nat}(h:cS s a n len=true)(b:a=4\/a=5):0<=n/\n<s.bj.length:=by
 unfold cS at h;rcases b with rfl|rfl
 ·simp[fX]at h;omega
 ·simp[fX]at h;omega
theorem wj{a n:Int}{len:Nat}(h:cS s a n len=true)(b:a=8):0<=n:=by
 unfold cS at h;subst b;simp[fX]at h;omega
theorem Bm{f:Nat}:∀{F:Fo},cK s F=true->F.calls f=true->f<s.bj.length
 | .nil,_,h=>by cases h
 | .cons a n k r,b,h=>by
  unfold cK at b;simp only[ak]at b;unfold Fo.calls at h;simp only[b7,ak,b_]at h;rcases h with(⟨c,rfl⟩|h)|h
  ·have:=mV b.1.1 c;omega
  ·exact Bm b.1.2 h
  ·exact Bm b.2 h
theorem Nd.R3{t:Nd}(h:iT s t=true):cK s t.one=true:=by
 unfold iT at h;unfold Nd.one cK;rw[h];rfl
theorem kD{t:Nd}(h:dq s t=true):cK s t.one=true:=Nd.R3 (by unfold dq at h;simp only[ak]at h;exact h.2)
theorem Df{C:Kn}:∀{F:Fo},cK s F=true->(∀f:Nat,f<s.bj.length->F.calls f=true->A5 C f)->CB C F
 | .nil,_,_=>⟨trivial,trivial⟩
 | .cons a n k r,b,h=>by
  unfold cK at b;simp only[ak]at b;have e:=Df (C:=C) b.1.2 λf d hc=>h f d (by unfold Fo.calls;rw[hc];simp);have g:=Df (C:=C) b.2 λf d hc=>h f d (by unfold Fo.calls;rw[hc];simp);refine⟨⟨λc=>wj b.1.1 c,e.lets,g.lets⟩,⟨λc=> ?_,e.fns,g.fns⟩⟩;obtain⟨i,j⟩:=mV b.1.1 c;refine⟨i,?_⟩;obtain⟨f,rfl⟩:∃f:Nat,n=f:=⟨n.toNat,by omega⟩;refine h f (by omega) ?_;unfold Fo.calls;rcases c with rfl|rfl<;>simp
theorem qZ{f:Nat}:∀{F:Fo},ou iG F=true->F.calls f=false
 | .nil,_=>rfl
 | .cons a n k r,h=>by
  unfold ou at h;simp only[ak]at h;unfold Fo.calls;rw[qZ h.1.2,qZ h.2];have:=h.1.1;unfold iG at this;simp only[b7,b_]at this;rcases this with rfl|rfl<;>rfl
structure acY (s:Sg) (r:oN):Prop where
 fn:0<=r.fn/\r.fn.toNat<s.bj.length
 len:(r.bT.len:Int)=(bS s.bj r.fn.toNat).args
 rhs:dq s r.rhs=true
 bT:∀t∈r.bT.list,dq s t=true/\ew iG t=true
theorem EC{p:Nd->Bool}{F:Fo}(h:pO p F=true):∀t∈F.list,p t=true:=by
 induction F with
 |nil=>intro t b;cases b
 |cons a n k r _ c=>
  unfold pO at h;simp only[ak]at h;intro t b;unfold Fo.list at b;rcases aE.1 b with rfl|b
  ·exact h.1
  ·exact c h.2 t b
theorem VE{r:oN}(h:jO s r=true):acY s r:=by
 unfold jO at h;simp only[ak,b_]at h;obtain⟨⟨⟨⟨⟨b,c⟩,_⟩,d⟩,e⟩,_⟩:=h;refine⟨?_,c,d,λt f=> ?_⟩
 ·unfold fX at b;simp at b;omega
 ·have:=EC e t f;unfold kU at this;simp only[ak]at this;refine⟨this.1.1,?_⟩;have a:=this.1.2;unfold Er at a;simp only[ak]at a;exact a.2
theorem mW(h:ez p=true):∀r∈p.rules,acY p.sig r:=by
 unfold ez at h;simp only[ak,aK]at h;exact λr a=>VE (h.2 r a)
theorem pT(h:ez p=true)(i j:Nat)(he:vh p i j=true):i<p.sig.bj.length/\j<p.sig.bj.length:=by
 unfold vh at he;simp only[List.any_eq_true,ak,b_]at he;obtain⟨r,a,c,b⟩:=he;have hi:=mW h r a;exact⟨by have:=hi.fn;omega,Bm (kD hi.rhs) b⟩
theorem Jj(h:ez p=true):∀i k j,fg p i k=true->fg p k j=true->fg p i j=true:=λ_ _ _=>IL (pT h)
theorem yt(h:ez p=true):tP (fg p) p.sig.bj.length (λ_=>false) (eA p):=Nt (Jj h)
theorem B3(h:ez p=true){j:Nat}(he:vh p i j=true):fg p i j=true:=(mL (pT h)).2 (.one he)
end
section
open Go Go.RowKit
attribute [local go_sem] aT cW df
theorem oQ(ds:List fV)(v:Value)(w:World)(B:Nat)(d:eB w B v ds)(hB:B<=w.heap.size):aH Tryz.prog 55 #[v] w (.bool (dg ds)):=by
 have HC:Hd (∀W,Below w.heap.size w W->aH Tryz.prog 132 #[v] W (.bool (dg ds))):=hI λW G=>tT ds v W w.heap.size ((d.mono hB).below G lR) G.size;obtain⟨a,c,rfl⟩:=d.slice;clear d;obtain⟨f,e⟩:∃b:Bool,b=dg ds:=⟨_,rfl⟩;rw[<-e]at HC;rw[<-e];clear e;unfold aH
 go_enter Tryz.func55,Tryz.ntmps55
 exact am2
theorem q6(ds:List fV)(v:Value)(w:World)(B:Nat)(d:eB w B v ds)(hB:B<=w.heap.size):aH Tryz.prog 51 #[v] w (.bool (dZ ds)):=by
 have HC:Hd (∀W,Below w.heap.size w W->aH Tryz.prog 127 #[v] W (.bool (dZ ds))):=hI λW G=>ve ds v W w.heap.size ((d.mono hB).below G lR) G.size;obtain⟨a,c,rfl⟩:=d.slice;clear d;obtain⟨f,e⟩:∃b:Bool,b=dZ ds:=⟨_,rfl⟩;rw[<-e]at HC;rw[<-e];clear e;unfold aH
 go_enter Tryz.func51,Tryz.ntmps51
 exact am2
theorem zX(t:Nd)(v:Value)(w:World)(B:Nat)(d:cV w B v t)(hB:B<=w.heap.size):aH Tryz.prog 47 #[v] w (.bool (decide (t.size<=26))):=by
 have HC:Hd (∀W,Below w.heap.size w W->aH Tryz.prog 124 #[v] W (.bool (decide (t.size<=26)))):=hI λW G=>xo t v W w.heap.size ((d.mono hB).below G lR) G.size;obtain⟨s,rfl,f⟩:=d;obtain⟨a,c,rfl⟩:=f.slice;clear f;obtain⟨g,e⟩:∃b:Bool,b=decide (t.size<=26):=⟨_,rfl⟩;rw[<-e]at HC;rw[<-e];clear e;unfold aH
 go_enter Tryz.func47,Tryz.ntmps47
 exact amV
theorem B4(t u:Nd)(v x:Value)(w:World)(B:Nat)(g:cV w B v t)(i:cV w B x u)(hB:B<=w.heap.size):aH Tryz.prog 31 #[v,x] w (.bool (jh t u)):=by
 have j:Hd (∀W,Below w.heap.size w W->aH Tryz.prog 106 #[v,x] W (.bool (jh t u))):=hI λW d=>sO _ t u v x W w.heap.size lR ((g.mono hB).below d lR) ((i.mono hB).below d lR) d.size;obtain⟨s,rfl,k⟩:=g;obtain⟨a,c,rfl⟩:=k.slice;obtain⟨s',rfl,l⟩:=i;obtain⟨m,n,rfl⟩:=l.slice;clear k l;obtain⟨o,f⟩:∃b:Bool,b=jh t u:=⟨_,rfl⟩;rw[<-f]at j;rw[<-f];clear f;unfold aH
 go_enter Tryz.func31,Tryz.ntmps31
 go_wp2_with fail
 refine(j.o _ (Below.jE _ _ _)).mono ?_;rintro e f ⟨rfl,d⟩;have k:Hd (Below w.heap.size w f):=hI (ag (Below.jE _ _ _) d (by first|exact lR|simp));clear d;go_wp2;go_ret;exact⟨rfl,k.o⟩
theorem mX(F G:Fo)(v x:Value)(w:World)(B:Nat)(d:dr w B v F)(f:dr w B x G)(hB:B<=w.heap.size):aH Tryz.prog 32 #[v,x] w (.bool (zJ F G)):=by
 have HC:Hd (∀W,Below w.heap.size w W->aH Tryz.prog 107 #[v,x] W (.bool (zJ F G))):=hI λW e=>F_ F G v x W w.heap.size ((d.mono hB).below e lR) ((f.mono hB).below e lR) e.size;obtain⟨a,c,rfl⟩:=d.slice;obtain⟨i,j,rfl⟩:=f.slice;clear d f;obtain⟨k,g⟩:∃b:Bool,b=zJ F G:=⟨_,rfl⟩;rw[<-g]at HC;rw[<-g];clear g;unfold aH
 go_enter Tryz.func32,Tryz.ntmps32
 exact am2
theorem xz(m:Md)(v:Value)(w:World)(B:Nat)(a:jM w B v m)(hB:B<=w.heap.size):aH Tryz.prog 39 #[v] w (.bool (iy m)):=by
 have HC:Hd (∀W,Below w.heap.size w W->aH Tryz.prog 120 #[v] W (.bool (iy m))):=hI λW G=>Bl m v W w.heap.size ((a.mono hB).below G lR) G.size;obtain⟨dv,cv,fv,rv,rfl,c,hc,d,f⟩:=a;obtain⟨g,dc,rfl⟩:=c.slice;obtain⟨i,cc,rfl⟩:=hc.slice;obtain⟨j,k,rfl⟩:=d.slice;obtain⟨l,rc,rfl⟩:=f.slice;clear c hc d f;obtain⟨n,e⟩:∃b:Bool,b=iy m:=⟨_,rfl⟩;rw[<-e]at HC;rw[<-e];clear e;unfold aH
 go_enter Tryz.func39,Tryz.ntmps39
 exact amV
theorem pU(m:Md)(v:Value)(w:World)(B:Nat)(a:jM w B v m)(hB:B<=w.heap.size):aH Tryz.prog 27 #[v] w (.bool (jl m)):=by
 have HC:Hd (∀W,Below w.heap.size w W->aH Tryz.prog 100 #[v] W (.bool (jl m))):=hI λW G=>CR m v W w.heap.size ((a.mono hB).below G lR) G.size;obtain⟨dv,cv,fv,rv,rfl,c,hc,d,f⟩:=a;obtain⟨g,dc,rfl⟩:=c.slice;obtain⟨i,cc,rfl⟩:=hc.slice;obtain⟨j,k,rfl⟩:=d.slice;obtain⟨l,rc,rfl⟩:=f.slice;clear c hc d f;obtain⟨n,e⟩:∃b:Bool,b=jl m:=⟨_,rfl⟩;rw[<-e]at HC;rw[<-e];clear e;unfold aH
 go_enter Tryz.func27,Tryz.ntmps27
 exact amV
theorem Jk(a b:List Int)(s bv:Value)(w:World){B:Nat}(t:Ints w B s a)(c:Ints w B bv b)(hB:B<=w.heap.size):aH Tryz.prog 60 #[s,bv] w (.bool (rO a b)):=by
 unfold aH;obtain⟨G,aa,ac,rfl,_,_,n⟩:=t.mono hB;obtain⟨z,ba,bc,rfl,_,_,l⟩:=c.mono hB;clear t c;by_cases e:a.length=b.length
 ·rw[<-e]at l z |-;have A:=hI e;clear e;have o:=hI n;have C:=hI l;clear n l
  go_enter Tryz.func60,Tryz.ntmps60
  go_wp2_with fail
  go_loopw [5] (λi wr=>∃k:Nat,k<=a.length/\i=.int .i64 k/\(∀j,j<k->cN a j=cN b j)/\Below w.heap.size w wr) (λi _=>a.length-(intOf i).toNat)
  case atStart=>exact⟨0,aw _,rfl,λj u=>ay u (ax _),bR⟩
  case round=>
   obtain⟨k,H,rfl,m,c⟩:=hrel;by_cases I:k<a.length
   ·obtain⟨p,v,rfl,hp,f⟩:=o.o (by omega);obtain⟨q,x,rfl,D,g⟩:=C.o (by omega);have c0:wr.cell? ⟨p,v+k,none⟩=some (.int .i64 (cN a k)):=(c.cell (p:=⟨p,v+k,none⟩) hp).trans (f k (by omega));have c1:wr.cell? ⟨q,x+k,none⟩=some (.int .i64 (cN b k)):=(c.cell (p:=⟨q,x+k,none⟩) D).trans (g k (by omega));have J:p<wr.heap.size:=by have:=c.size;omega
    have K:q<wr.heap.size:=by have:=c.size;omega
    have E:=hI m;have d:=hI c;clear f g m c;by_cases he:cN a k=cN b k
    ·have g:=hI he;have y:(cN a k != cN b k)=false:=by rw[he];simp
     clear he
     go_wp2_with fail
     refine aM (by kernel_rfl) (by kernel_rfl) ?_
     repeat go_big_quiet_step (fail)
     refine wpQuiet_nil ?_;intro F f;have r:=hI (d.o.trans (f.mono d.o.size));clear f;go_wp2
     go_roundw
     case rel=>exact⟨k+1,by omega,by go_num,λj u=>if h:j=k then h ▸ g.o else E.o j (by omega),r.o⟩
     case measure=>simp[intOf];omega
    ·have g:=hI he;have y:(cN a k != cN b k)=true:=by simp[he]
     clear he
     go_wp2_with fail
     refine aM (by kernel_rfl) (by kernel_rfl) ?_
     repeat go_big_quiet_step (fail)
     refine wpQuiet_nil ?_;intro F f;have r:=hI (d.o.trans (f.mono d.o.size));clear f;go_wp2;go_ret;exact⟨by rw[UW g.o];rfl,r.o⟩
   ·have g:k=a.length:=by omega
    subst g;have f:=hI (RD A.o m);have d:=hI c;clear m c;go_wp2;go_ret;exact⟨by rw[f.o];rfl,d.o⟩
 ·have f:=hI (RC e);have y:(((a.length:Nat):Int) != ((b.length:Nat):Int))=true:=by rw[ZQ];simp[e]
  have g:¬((a.length:Int)=(b.length:Int)):=by omega
  clear n l
  go_enter Tryz.func60,Tryz.ntmps60
  go_wp2;go_ret;exact⟨by rw[f.o];rfl,bR⟩
structure Bd where
 var:Int
 jL:Nd
deriving DecidableEq,Inhabited
def lu(l:List (List Int))(i:Nat):List Int:=l[i]?.getD []
def eN(l:List Bd)(i:Nat):Bd:=l[i]?.getD default
def mA(w:World)(B:Nat)(v:Value)(l:List (List Int)):Prop:=∃c,Row w B 1 v l.length c/\∀i,i<l.length->Ints w B (c i) (lu l i)
def lz(w:World)(B:Nat)(v:Value)(l:List Bd):Prop:=∃c,Row w B 4 v l.length c/\∀i,i<l.length->c (i*4)=.int .i64 (eN l i).var/\c (i*4+1)=.int .i64 (eN l i).jL.a/\c (i*4+2)=.int .i64 (eN l i).jL.n/\dr w B (c (i*4+3)) (eN l i).jL.k
section
variable {w w':World} {B B':Nat} {v:Value}
theorem mA.below{l:List (List Int)}(h:mA w B v l)(a:Below B' w w')(hB:B<=B'):mA w' B v l:=let⟨c,b,hc⟩:=h;⟨c,b.below a hB,λi hi=>(hc i hi).below a hB⟩
theorem mA.mono{l:List (List Int)}(h:mA w B v l)(hB:B<=B'):mA w B' v l:=let⟨c,a,hc⟩:=h;⟨c,a.mono hB,λi hi=>(hc i hi).mono hB⟩
theorem lz.below{l:List Bd}(h:lz w B v l)(a:Below B' w w')(hB:B<=B'):lz w' B v l:=let⟨c,b,hc⟩:=h;⟨c,b.below a hB,λi hi=>let⟨d,a2,a3,a4⟩:=hc i hi;⟨d,a2,a3,a4.below a hB⟩⟩
theorem lz.mono{l:List Bd}(h:lz w B v l)(hB:B<=B'):lz w B' v l:=let⟨c,a,hc⟩:=h;⟨c,a.mono hB,λi hi=>let⟨b,a2,a3,a4⟩:=hc i hi;⟨b,a2,a3,a4.mono hB⟩⟩
theorem mA.slice{l:List (List Int)}(h:mA w B v l):∃a c,v=.slice a l.length c:=by obtain⟨_,⟨_,a,cap,rfl,_⟩,_⟩:=h;exact⟨_,_,rfl⟩
theorem lz.slice{l:List Bd}(h:lz w B v l):∃a c,v=.slice a l.length c:=by obtain⟨_,⟨_,a,cap,rfl,_⟩,_⟩:=h;exact⟨_,_,rfl⟩
theorem mA.small{l:List (List Int)}(h:mA w B v l):l.length<=140737488355328:=let⟨_,h,_⟩:=h;h.1
theorem lz.small{l:List Bd}(h:lz w B v l):l.length<=140737488355328:=let⟨_,h,_⟩:=h;h.1
variable {wr:World}
theorem Qr{l:List (List Int)}(h:mA w B v l)(e:Below B w wr)(j:k<l.length):
 ∃b off cap p d,v=.slice (some ⟨b,off,none⟩) l.length cap/\b<B/\wr.cell? ⟨b,off+k,none⟩=some (.slice p (lu l k).length d)/\Ints wr B (.slice p (lu l k).length d) (lu l k):=by
 obtain⟨c,⟨_,a,cap,rfl,_,_,m⟩,hc⟩:=h;obtain⟨b,off,rfl,f,n⟩:=m (by omega);have g:=hc k j;obtain⟨p,d,i⟩:=g.slice;exact⟨b,off,cap,p,d,rfl,f,by rw[e.cell (p:=⟨b,off+k,none⟩) f,n _ (by omega),i],by rw[<-i];exact g.below e lR⟩
theorem Qs{l:List Bd}(h:lz w B v l)(d:Below B w wr)(m:k<l.length):
 ∃b off cap p f,v=.slice (some ⟨b,off,none⟩) l.length cap/\b<B/\wr.cell? ⟨b,off+k*4,none⟩=some (.int .i64 (eN l k).var)/\wr.cell? ⟨b,off+k*4+1,none⟩=some (.int .i64 (eN l k).jL.a)/\
  wr.cell? ⟨b,off+k*4+2,none⟩=some (.int .i64 (eN l k).jL.n)/\wr.cell? ⟨b,off+k*4+3,none⟩=some (.slice p (eN l k).jL.k.len f)/\dr wr B (.slice p (eN l k).jL.k.len f) (eN l k).jL.k:=by
 obtain⟨c,⟨_,a,cap,rfl,_,_,n⟩,hc⟩:=h;obtain⟨b,off,rfl,e,g⟩:=n (by omega);obtain⟨o,q,r,i⟩:=hc k m;obtain⟨p,f,j⟩:=i.slice;exact⟨b,off,cap,p,f,rfl,e,by rw[d.cell (p:=⟨b,off+k*4,none⟩) e,g _ (by omega),o],by rw[d.cell (p:=⟨b,off+k*4+1,none⟩) e,bN,g _ (by omega),q],
  by rw[d.cell (p:=⟨b,off+k*4+2,none⟩) e,bN,g _ (by omega),r],by rw[d.cell (p:=⟨b,off+k*4+3,none⟩) e,bN,g _ (by omega),j],by rw[<-j];exact i.below d lR⟩
end
def Lj(a b:List (List Int)):Bool:=decide (a=b)
theorem R5{a b:List (List Int)}(h:a.length≠b.length):Lj a b=false:=aB λe=>h (by rw[e])
theorem VF{a b:List (List Int)}(h:rO (lu a k) (lu b k)=false):Lj a b=false:=aB λe=>of_decide_eq_false h (by rw[e])
theorem R6{a b:List (List Int)}(d:a.length=b.length)(h:∀i,i<a.length->rO (lu a i) (lu b i)=true):Lj a b=true:=aI (by
 refine List.ext_getElem d λi c e=> ?_;have:=bu (h i c);simpa [lu,c,e] using this)
def pV(x y:Bd):Bool:=x.var==y.var&&jh x.jL y.jL
def mB:List Bd->List Bd->Bool
 |[],[]=>true
 |x::a,y::b=>pV x y&&mB a b
 |_,_=>false
theorem B5:∀{a b:List Bd},a.length≠b.length->mB a b=false
 |[],[],h=>ay rfl h
 |[],_::_,_=>rfl
 |_::_,[],_=>rfl
 |x::a,y::b,h=>by unfold mB;rw[B5 (a:=a) (b:=b) (by simpa using h)];simp
theorem ED:∀{a b:List Bd} {k:Nat},k<a.length->pV (eN a k) (eN b k)=false->mB a b=false
 |[],_,_,h,_=>ay h (ax _)
 |_::_,[],_,_,_=>rfl
 |x::a,y::b,0,_,h=>by unfold mB;rw[show pV x y=false from h];rfl
 |x::a,y::b,k+1,c,h=>by unfold mB;rw[ED (a:=a) (b:=b) (k:=k) (by simpa using c) (by simpa [eN] using h)];simp
theorem B6:∀{a b:List Bd},a.length=b.length->(∀k,k<a.length->pV (eN a k) (eN b k)=true)->mB a b=true
 |[],[],_,_=>rfl
 |[],_::_,h,_=>by simp at h
 |_::_,[],h,_=>by simp at h
 |x::a,y::b,c,h=>by
  unfold mB;rw[show pV x y=true from h 0 (by simp),B6 (a:=a) (b:=b) (by simpa using c) (λk d=>by have:=h (k+1) (by simpa using d);simpa [eN] using this)]
  rfl
theorem EE(F G:List (List Int))(v x:Value)(w:World)(B:Nat)(a:mA w B v F)(c:mA w B x G)(hB:B<=w.heap.size):
 aH Tryz.prog 25 #[v,x] w (.bool (Lj F G)):=by
 have C:=a.small;have n:=c.small;obtain⟨D,sc,rfl⟩:=a.slice;obtain⟨E,H,rfl⟩:=c.slice;have o:=hI (a.mono hB);have q:=hI (c.mono hB);clear a c;unfold aH;by_cases e:F.length=G.length
 case neg=>
  have f:((F.length:Int) != (G.length:Int))=true:=gy (by omega);have HN:=hI (R5 e);clear e
  go_enter Tryz.func25,Tryz.ntmps25
  go_wp2;go_ret;exact⟨by rw[HN.o];rfl,bR⟩
 have g:=hI e;have f:((F.length:Int) != (G.length:Int))=false:=jX (by omega);clear e
 go_enter Tryz.func25,Tryz.ntmps25
 go_wp2;clear f
 go_loopw [5] (λi wr=>∃k:Nat,k<=F.length/\i=.int .i64 k/\(∀j,j<k->rO (lu F j) (lu G j)=true)/\Below w.heap.size w wr) (λi _=>F.length-(intOf i).toNat)
 case atStart=>exact⟨0,aw _,rfl,λj hj=>ay hj (ax _),bR⟩
 case round=>
  obtain⟨k,I,rfl,e,hb⟩:=hrel;have dK:=hI e;have HB:=hI hb;have yn:Hd ((∀j,j<F.length->rO (lu F j) (lu G j)=true)->Lj F G=true):=hI λh=>R6 g.o h;clear e;by_cases l:k<F.length
  ·have r:k<G.length:=by rw[<-g.o];exact l
   obtain⟨b,off,cap,p,s,he,J,f0,e⟩:=Qr o.o hb l;cases he;obtain⟨t,K,L,u,y,z,M,g0,m⟩:=Qr q.o hb r;cases z;have hz:w.heap.size<=wr.heap.size:=hb.size;have N:b<wr.heap.size:=by omega
   have O:t<wr.heap.size:=by omega
   have P:(k:Int)<(F.length:Int):=by omega
   have A:(k:Int)<(G.length:Int):=by omega
   have uX:Hd (∀d os,aH Tryz.prog 60 #[.slice p (lu F k).length s,.slice u (lu G k).length y] (Go.Sort.grow (redrawn wr d) os) (.bool (rO (lu F k) (lu G k)))):=
    hI λd os=>Jk _ _ _ _ _ ((e.mono hz).below (below_regrown wr d os) lR) ((m.mono hz).below (below_regrown wr d os) lR) (below_regrown wr d os).size
   clear e m hb;cases hs:rO (lu F k) (lu G k)
   case false=>
    have HN:=hI (VF hs);exact amN
   case true=>
    have HN:=hI hs;exact amH
  ·exact anN
theorem xB(F G:List Bd)(v x:Value)(w:World)(B:Nat)(c:lz w B v F)(e:lz w B x G)(hB:B<=w.heap.size):
 aH Tryz.prog 21 #[v,x] w (.bool (mB F G)):=by
 have E:=c.small;have q:=e.small;obtain⟨H,sc,rfl⟩:=c.slice;obtain⟨I,J,rfl⟩:=e.slice;have r:=hI (c.mono hB);have s:=hI (e.mono hB);clear c e;unfold aH;by_cases a:F.length=G.length
 case neg=>
  have g:((F.length:Int) != (G.length:Int))=true:=gy (by omega);have HN:=hI (B5 a);clear a
  go_enter Tryz.func21,Tryz.ntmps21
  go_wp2;go_ret;exact⟨by rw[HN.o];rfl,bR⟩
 have l:=hI a;have g:((F.length:Int) != (G.length:Int))=false:=jX (by omega);clear a
 go_enter Tryz.func21,Tryz.ntmps21
 go_wp2;clear g
 go_loopw [5] (λi wr=>∃k:Nat,k<=F.length/\i=.int .i64 k/\(∀j,j<k->pV (eN F j) (eN G j)=true)/\Below w.heap.size w wr) (λi _=>F.length-(intOf i).toNat)
 case atStart=>exact⟨0,aw _,rfl,λj hj=>ay hj (ax _),bR⟩
 case round=>
  obtain⟨k,K,rfl,a,hb⟩:=hrel;have dK:=hI a;have HB:=hI hb;have yn:Hd ((∀j,j<F.length->pV (eN F j) (eN G j)=true)->mB F G=true):=hI λh=>B6 l.o h;clear a;by_cases f:k<F.length
  ·have t:k<G.length:=by rw[<-l.o];exact f
   obtain⟨b,off,cap,p,u,he,L,f0,f1,f2,f3,m⟩:=Qs r.o hb f;cases he;obtain⟨y,M,N,z,A,C,O,g0,g1,g2,g3,n⟩:=Qs s.o hb t;cases C;have hz:w.heap.size<=wr.heap.size:=hb.size;have P:b<wr.heap.size:=by omega
   have Q:y<wr.heap.size:=by omega
   have R:(k:Int)<(F.length:Int):=by omega
   have D:(k:Int)<(G.length:Int):=by omega
   have uX:Hd (∀d os,aH Tryz.prog 31 #[.agg #[.int .i64 (eN F k).jL.a,.int .i64 (eN F k).jL.n,.slice p (eN F k).jL.k.len u],.agg #[.int .i64 (eN G k).jL.a,.int .i64 (eN G k).jL.n,.slice z (eN G k).jL.k.len A]] (Go.Sort.grow (redrawn wr d) os) (.bool (jh (eN F k).jL (eN G k).jL))):=
    hI λd os=>B4 _ _ _ _ _ wr.heap.size ⟨_,rfl,(m.mono hz).below (below_regrown wr d os) lR⟩ ⟨_,rfl,(n.mono hz).below (below_regrown wr d os) lR⟩ (below_regrown wr d os).size
   have o:Hd (pV (eN F k) (eN G k)=false->mB F G=false):=hI λh=>ED f h;clear m n hb;by_cases a:(eN F k).var=(eN G k).var
   case neg=>
    have n:((eN F k).var != (eN G k).var)=true:=gy a;have HN:=hI (o.o (by unfold pV;rw[beq_eq_false_iff_ne.2 a];rfl));clear a
    go_wp2_with fail
    refine aM (by kernel_rfl) (by kernel_rfl) ?_
    repeat go_big_quiet_step (fail)
    refine wpQuiet_nil ?_;intro w2 bD;have cR:=hI (HB.o.trans (bD.mono hz));clear bD;go_wp2;go_ret;exact⟨by rw[HN.o];rfl,cR.o⟩
   have n:((eN F k).var != (eN G k).var)=false:=jX a;have m:Hd (pV (eN F k) (eN G k)=jh (eN F k).jL (eN G k).jL):=hI (by unfold pV;rw[b_.2 a];rfl);clear a;cases hs:jh (eN F k).jL (eN G k).jL
   case false=>
    have HN:=hI (o.o (m.o.trans hs));exact amN
   case true=>
    have HN:=hI (m.o.trans hs);exact amH
  ·exact anN
theorem oR(n l h:Int)(w:World):aH Tryz.prog 194 #[.int .i64 n,.int .i64 l,.int .i64 h] w (.bool (fX n l h)):=
 (pH n l h w).mono λ_ _ ⟨a,b⟩=>⟨a,b ▸ bR⟩
theorem NX(n l h:Int)(w:World):aH Tryz.prog 176 #[.int .i64 n,.int .i64 l,.int .i64 h] w (.bool (fX n l h)):=
 (qV n l h w).mono λ_ _ ⟨a,b⟩=>⟨a,b ▸ bR⟩
theorem zZ(b:Bool)(w:World):Calls Tryz.prog 128 #[.bool b] w λe w'=>e=.returned (.int .i64 (if b then 0 else 2))/\w'=w:=by
 cases b
 all_goals
  go_enter Tryz.func128,Tryz.ntmps128
  go_wp2;go_ret;exact⟨rfl,rfl⟩
theorem Gf(s:Sg)(n:Int)(F:Fo)(sv kv:Value)(w:World)(B:Nat)(d:ku w B sv s)(a:dr w B kv F)(hB:B<=w.heap.size):
 aH Tryz.prog 279 #[sv,.agg #[.int .i64 1,.int .i64 n,kv]] w (.bool (cS s 1 n F.len)):=by
 obtain⟨cv,fv,rfl,hc,b⟩:=d;have f:=a.small;obtain⟨g,cc,rfl⟩:=hc.slice;obtain⟨i,j,rfl⟩:=b.slice;obtain⟨ka,kc,rfl⟩:=a.slice;have c:=hI (Below.jE w (.cells #[.slice g s.cons.length cc,.slice i s.bj.length j] 275) (.cells #[.int .i64 1,.int .i64 n,.slice ka F.len kc] 54));clear hc b a;obtain⟨len,hlen⟩:∃l,l=F.len:=⟨_,rfl⟩;rw[<-hlen]at f c |-;clear hlen;unfold aH;rw[show cS s 1 n len=(len==0&&fX n (0) (19))from rfl];have m:((len:Int)==0)=(len==0):=by rw[aP];simp<;>omega
 cases c1:fX n (0) (19)
 all_goals
  have k:=hI c1;clear c1;cases c0:(len==0)
  all_goals
   go_enter Tryz.func279,Tryz.ntmps279
   go_wp2_with (go_at_call 194;refine(pH _ _ _ _).mono ?_;rintro e w' ⟨rfl,b⟩;rw[b,k.o];clear b w')
   go_ret;exact⟨rfl,c.o⟩
theorem Jl(s:Sg)(n:Int)(F:Fo)(sv kv:Value)(w:World)(B:Nat)(d:ku w B sv s)(a:dr w B kv F)(hB:B<=w.heap.size):
 aH Tryz.prog 280 #[sv,.agg #[.int .i64 2,.int .i64 n,kv]] w (.bool (cS s 2 n F.len)):=by
 obtain⟨cv,fv,rfl,hc,b⟩:=d;have f:=a.small;obtain⟨g,cc,rfl⟩:=hc.slice;obtain⟨i,j,rfl⟩:=b.slice;obtain⟨ka,kc,rfl⟩:=a.slice;have c:=hI (Below.jE w (.cells #[.slice g s.cons.length cc,.slice i s.bj.length j] 275) (.cells #[.int .i64 2,.int .i64 n,.slice ka F.len kc] 54));clear hc b a;obtain⟨len,hlen⟩:∃l,l=F.len:=⟨_,rfl⟩;rw[<-hlen]at f c |-;clear hlen;unfold aH;rw[show cS s 2 n len=(len==0&&fX n (-1000000) (1000000))from rfl];have m:((len:Int)==0)=(len==0):=by rw[aP];simp<;>omega
 cases c1:fX n (-1000000) (1000000)
 all_goals
  have k:=hI c1;clear c1;cases c0:(len==0)
  all_goals
   go_enter Tryz.func280,Tryz.ntmps280
   go_wp2_with (go_at_call 194;refine(pH _ _ _ _).mono ?_;rintro e w' ⟨rfl,b⟩;rw[b,k.o];clear b w')
   go_ret;exact⟨rfl,c.o⟩
theorem VG(s:Sg)(n:Int)(F:Fo)(sv kv:Value)(w:World)(B:Nat)(d:ku w B sv s)(a:dr w B kv F)(hB:B<=w.heap.size):
 aH Tryz.prog 284 #[sv,.agg #[.int .i64 8,.int .i64 n,kv]] w (.bool (cS s 8 n F.len)):=by
 obtain⟨cv,fv,rfl,hc,b⟩:=d;have f:=a.small;obtain⟨g,cc,rfl⟩:=hc.slice;obtain⟨i,j,rfl⟩:=b.slice;obtain⟨ka,kc,rfl⟩:=a.slice;have c:=hI (Below.jE w (.cells #[.slice g s.cons.length cc,.slice i s.bj.length j] 275) (.cells #[.int .i64 8,.int .i64 n,.slice ka F.len kc] 54));clear hc b a;obtain⟨len,hlen⟩:∃l,l=F.len:=⟨_,rfl⟩;rw[<-hlen]at f c |-;clear hlen;unfold aH;rw[show cS s 8 n len=(len==2&&fX n (0) (19))from rfl];have m:((len:Int)==2)=(len==2):=by rw[aP];simp<;>omega
 cases c1:fX n (0) (19)
 all_goals
  have k:=hI c1;clear c1;cases c0:(len==2)
  all_goals
   go_enter Tryz.func284,Tryz.ntmps284
   go_wp2_with (go_at_call 194;refine(pH _ _ _ _).mono ?_;rintro e w' ⟨rfl,b⟩;rw[b,k.o];clear b w')
   go_ret;exact⟨rfl,c.o⟩
theorem R7(s:Sg)(a n:Int)(F:Fo)(sv kv:Value)(w:World)(B:Nat)(e:ku w B sv s)(b:dr w B kv F)(hB:B<=w.heap.size):
 aH Tryz.prog 285 #[sv,.agg #[.int .i64 a,.int .i64 n,kv]] w (.bool (F.len==2&&n==0)):=by
 obtain⟨cv,fv,rfl,hc,c⟩:=e;have f:=b.small;obtain⟨g,cc,rfl⟩:=hc.slice;obtain⟨i,j,rfl⟩:=c.slice;obtain⟨ka,kc,rfl⟩:=b.slice;have d:=hI (Below.jE w (.cells #[.slice g s.cons.length cc,.slice i s.bj.length j] 275) (.cells #[.int .i64 a,.int .i64 n,.slice ka F.len kc] 54));clear hc c b;obtain⟨len,hlen⟩:∃l,l=F.len:=⟨_,rfl⟩;rw[<-hlen]at f d |-;clear hlen;unfold aH;have k:((len:Int)==2)=(len==2):=by rw[aP];simp;omega
 cases c1:(n==0)
 all_goals
  cases c0:(len==2)
  all_goals
   go_enter Tryz.func285,Tryz.ntmps285
   go_wp2;go_ret;exact⟨rfl,d.o⟩
theorem VH(s:Sg)(n:Int)(F:Fo)(sv kv:Value)(w:World)(B:Nat)(e:ku w B sv s)(a:dr w B kv F)(hB:B<=w.heap.size):
 aH Tryz.prog 281 #[sv,.agg #[.int .i64 3,.int .i64 n,kv]] w (.bool (cS s 3 n F.len)):=by
 obtain⟨cv,fv,rfl,hc,G⟩:=e;have t:=hc.small;have u:=G.small;have f:=a.small;obtain⟨g,cc,rfl⟩:=hc.slice;obtain⟨i,j,rfl⟩:=G.slice;obtain⟨ka,kc,rfl⟩:=a.slice;have cg:=hI (Below.jE w (.cells #[.slice g s.cons.length cc,.slice i s.bj.length j] 275) (.cells #[.int .i64 3,.int .i64 n,.slice ka F.len kc] 54));have d:=hI (hc.mono hB);clear hc G a;obtain⟨len,hlen⟩:∃l,l=F.len:=⟨_,rfl⟩;rw[<-hlen]at f cg |-;clear hlen;unfold aH;have HQ:Hd (∀W,aH Tryz.prog 194 #[.int .i64 n,.int .i64 0,.int .i64 ((s.cons.length:Int)-1)] W (.bool (fX n 0 ((s.cons.length:Int)-1)))):=hI λW=>oR _ _ _ _;have c:cS s 3 n len=(fX n 0 ((s.cons.length:Int)-1)&&(len:Int)==(bS s.cons n.toNat).args):=rfl;cases c1:fX n 0 (((s.cons.length:Nat):Int)-1)
 ·have HV:Hd (cS s 3 n len=false):=hI (by rw[c,c1];rfl);rw[c1]at HQ;clear c1 c
  go_enter Tryz.func281,Tryz.ntmps281
  exact amy
 ·have m:0<=n/\n<=((s.cons.length:Nat):Int)-1:=by unfold fX at c1;simpa using c1
  obtain⟨k,rfl⟩:∃k:Nat,n=k:=⟨n.toNat,by omega⟩;have a:k<s.cons.length:=by omega
  have v:(k:Int)<(s.cons.length:Int):=by omega
  obtain⟨b,off,cap,he,o,x0,x1,_⟩:=fJ d.o cg.o a;obtain⟨x,y,z,p,_,_,q,_⟩:=fJ d.o bR a;cases he;cases p;rw[c1]at HQ;rw[c1,bw,aU]at c;clear c1 m x0;obtain⟨A,G⟩:=xE ((bS s.cons k).args);rw[<-G]at x1 q c;clear G;have HV:=hI c;have r:b<w.heap.size+1:=by omega
  have m:b<w.heap.size+1+1:=by omega
  clear c
  go_enter Tryz.func281,Tryz.ntmps281
  exact amy
theorem VI(s:Sg)(n:Int)(F:Fo)(sv kv:Value)(w:World)(B:Nat)(e:ku w B sv s)(a:dr w B kv F)(hB:B<=w.heap.size):
 aH Tryz.prog 282 #[sv,.agg #[.int .i64 4,.int .i64 n,kv]] w (.bool (cS s 4 n F.len)):=by
 obtain⟨cv,fv,rfl,hc,G⟩:=e;have t:=hc.small;have u:=G.small;have f:=a.small;obtain⟨g,cc,rfl⟩:=hc.slice;obtain⟨i,j,rfl⟩:=G.slice;obtain⟨ka,kc,rfl⟩:=a.slice;have cg:=hI (Below.jE w (.cells #[.slice g s.cons.length cc,.slice i s.bj.length j] 275) (.cells #[.int .i64 4,.int .i64 n,.slice ka F.len kc] 54));have d:=hI (G.mono hB);clear hc G a;obtain⟨len,hlen⟩:∃l,l=F.len:=⟨_,rfl⟩;rw[<-hlen]at f cg |-;clear hlen;unfold aH;have HQ:Hd (∀W,aH Tryz.prog 194 #[.int .i64 n,.int .i64 0,.int .i64 ((s.bj.length:Int)-1)] W (.bool (fX n 0 ((s.bj.length:Int)-1)))):=hI λW=>oR _ _ _ _;have c:cS s 4 n len=(fX n 0 ((s.bj.length:Int)-1)&&(len:Int)==(bS s.bj n.toNat).args):=rfl;cases c1:fX n 0 (((s.bj.length:Nat):Int)-1)
 ·have HV:Hd (cS s 4 n len=false):=hI (by rw[c,c1];rfl);rw[c1]at HQ;clear c1 c
  go_enter Tryz.func282,Tryz.ntmps282
  exact amy
 ·have m:0<=n/\n<=((s.bj.length:Nat):Int)-1:=by unfold fX at c1;simpa using c1
  obtain⟨k,rfl⟩:∃k:Nat,n=k:=⟨n.toNat,by omega⟩;have a:k<s.bj.length:=by omega
  have v:(k:Int)<(s.bj.length:Int):=by omega
  obtain⟨b,off,cap,he,o,x0,x1,_⟩:=fJ d.o cg.o a;obtain⟨x,y,z,p,_,_,q,_⟩:=fJ d.o bR a;cases he;cases p;rw[c1]at HQ;rw[c1,bw,aU]at c;clear c1 m x0;obtain⟨A,G⟩:=xE ((bS s.bj k).args);rw[<-G]at x1 q c;clear G;have HV:=hI c;have r:b<w.heap.size+1:=by omega
  have m:b<w.heap.size+1+1:=by omega
  clear c
  go_enter Tryz.func282,Tryz.ntmps282
  exact amy
theorem R8(s:Sg)(n:Int)(F:Fo)(sv kv:Value)(w:World)(B:Nat)(e:ku w B sv s)(a:dr w B kv F)(hB:B<=w.heap.size):
 aH Tryz.prog 283 #[sv,.agg #[.int .i64 5,.int .i64 n,kv]] w (.bool (cS s 5 n F.len)):=by
 obtain⟨cv,fv,rfl,hc,G⟩:=e;have t:=hc.small;have u:=G.small;have f:=a.small;obtain⟨g,cc,rfl⟩:=hc.slice;obtain⟨i,j,rfl⟩:=G.slice;obtain⟨ka,kc,rfl⟩:=a.slice;have cg:=hI (Below.jE w (.cells #[.slice g s.cons.length cc,.slice i s.bj.length j] 275) (.cells #[.int .i64 5,.int .i64 n,.slice ka F.len kc] 54));have d:=hI (G.mono hB);clear hc G a;obtain⟨len,hlen⟩:∃l,l=F.len:=⟨_,rfl⟩;rw[<-hlen]at f cg |-;clear hlen;unfold aH;have HQ:Hd (∀W,aH Tryz.prog 194 #[.int .i64 n,.int .i64 0,.int .i64 ((s.bj.length:Int)-1)] W (.bool (fX n 0 ((s.bj.length:Int)-1)))):=hI λW=>oR _ _ _ _;have c:cS s 5 n len=(fX n 0 ((s.bj.length:Int)-1)&&decide ((len:Int)<(bS s.bj n.toNat).args)):=rfl;cases c1:fX n 0 (((s.bj.length:Nat):Int)-1)
 ·have HV:Hd (cS s 5 n len=false):=hI (by rw[c,c1];rfl);rw[c1]at HQ;clear c1 c
  go_enter Tryz.func283,Tryz.ntmps283
  exact amy
 ·have m:0<=n/\n<=((s.bj.length:Nat):Int)-1:=by unfold fX at c1;simpa using c1
  obtain⟨k,rfl⟩:∃k:Nat,n=k:=⟨n.toNat,by omega⟩;have a:k<s.bj.length:=by omega
  have v:(k:Int)<(s.bj.length:Int):=by omega
  obtain⟨b,off,cap,he,o,x0,x1,_⟩:=fJ d.o cg.o a;obtain⟨x,y,z,p,_,_,q,_⟩:=fJ d.o bR a;cases he;cases p;rw[c1]at HQ;rw[c1,bw,aU]at c;clear c1 m x0;obtain⟨A,G⟩:=xE ((bS s.bj k).args);rw[<-G]at x1 q c;clear G;have HV:=hI c;have r:b<w.heap.size+1:=by omega
  have m:b<w.heap.size+1+1:=by omega
  clear c
  go_enter Tryz.func283,Tryz.ntmps283
  exact amy
theorem NY{ds:List fV}(h:∀k,k<ds.length->(b8 ds k).cons.length<=140737488355328):∀{k:Nat},k<=ds.length->xy ds k<=k*140737488355328
 |0,_=>by rw[zU];exact aw _
 |k+1,a=>by
  rw[zV (by omega)];have:=NY h (k:=k) (by omega);have:=h k (by omega);omega
theorem mZ(ds:List fV)(dv:Value)(w:World)(B:Nat)(a:eB w B dv ds)(hB:B<=w.heap.size)(f:ds.length<=6):
 aH Tryz.prog 177 #[dv] w (.int .i64 (xy ds ds.length:Nat)):=by
 have d:=a.small;have HD:=hI (a.mono hB);have wQ:Hd (∀k,k<=ds.length->xy ds k<=k*140737488355328):=hI λk hk=>NY (λj e=>by
  obtain⟨b,off,cap,p,pc,he,fF,d0,d1,d2,ja,uT⟩:=iR HD.o bR e;exact ja.small) hk
 obtain⟨g,dc,rfl⟩:=a.slice;clear a;unfold aH
 go_enter Tryz.func177,Tryz.ntmps177
 go_wp2
 go_loopw [3,8] (λn i wr=>∃k:Nat,k<=ds.length/\i=.int .i64 k/\n=.int .i64 (xy ds k:Nat)/\Below w.heap.size w wr) (λ_ i _=>ds.length-(intOf i).toNat)
 case atStart=>exact⟨0,aw _,rfl,by rw[zU];rfl,bR⟩
 case round=>
  exact amG
theorem R9(ds:List fV)(a n:Int)(F:Fo)(dv kv:Value)(w:World)(B:Nat)(f:eB w B dv ds)(d:dr w B kv F)(hB:B<=w.heap.size):
 aH Tryz.prog 187 #[dv,.agg #[.int .i64 a,.int .i64 n,kv]] w (.bool (dA ds 20 a n F.len)):=by
 have i:=d.small;have u:=f.small;have j:=hI (f.mono hB);obtain⟨v,dc,rfl⟩:=f.slice;obtain⟨ka,kc,rfl⟩:=d.slice;have cg:=hI (Below.cA w (.cells #[.int .i64 a,.int .i64 n,.slice ka F.len kc] 26));clear f d;obtain⟨len,hlen⟩:∃l,l=F.len:=⟨_,rfl⟩;rw[<-hlen]at i cg |-;clear hlen;unfold aH;have x:((len:Int)==0)=(len==0):=by rw[aP];simp<;>omega
 have y:((len:Int)==2)=(len==2):=by rw[aP];simp<;>omega
 rcases Ev a with rfl|rfl|rfl|rfl|⟨m,o,q,r⟩
 ·have c:dA ds 20 1 n len=(fX n 0 19&&len==0):=by
   unfold dA fX;rw[aq rfl,show decide (n<20)=decide (n<=19)from by rw[aP];simp;omega]
  have HV:=hI c;clear c;cases c1:fX n 0 19
  all_goals
   have fw:=hI c1;clear c1;cases c0:(len==0)
   all_goals
    go_enter Tryz.func187,Tryz.ntmps187
    go_wp2_with (go_at_call 176;refine(qV _ _ _ _).mono ?_;rintro e w' ⟨rfl,dR⟩;rw[dR,fw.o];clear dR w')
    go_ret;exact⟨by rw[HV.o,fw.o,c0];rfl,cg.o⟩
 ·have HV:Hd (dA ds 20 2 n len=(n==0&&len==0)):=hI rfl;cases c1:(n==0)
  all_goals
   cases c0:(len==0)
   all_goals
    go_enter Tryz.func187,Tryz.ntmps187
    go_wp2;go_ret;exact⟨by rw[HV.o,c1,c0];rfl,cg.o⟩
 ·have HV:Hd (dA ds 20 3 n len=(n==0&&len==2)):=hI rfl;cases c1:(n==0)
  all_goals
   cases c0:(len==2)
   all_goals
    go_enter Tryz.func187,Tryz.ntmps187
    go_wp2;go_ret;exact⟨by rw[HV.o,c1,c0];rfl,cg.o⟩
 ·have c:dA ds 20 4 n len=(fX n 0 ((ds.length:Int)-1)&&(len:Int)==(b8 ds n.toNat).params):=by
   unfold dA fX;rw[ah (by omega),ah (by omega),ah (by omega),aq rfl,show decide (n<(ds.length:Int))=decide (n<=(ds.length:Int)-1)from by rw[aP];simp;omega]
  cases c1:fX n 0 ((ds.length:Int)-1)
  ·have fw:=hI c1;have HV:Hd (dA ds 20 4 n len=false):=hI (by rw[c,c1];rfl);clear c1 c;exact anD
  ·have s:0<=n/\n<=((ds.length:Nat):Int)-1:=by unfold fX at c1;simpa using c1
   obtain⟨k,rfl⟩:∃k:Nat,n=k:=⟨n.toNat,by omega⟩;have d:k<ds.length:=by omega
   have z:(k:Int)<(ds.length:Int):=by omega
   obtain⟨b,off,cap,p,A,he,t,_,x1,_,_,_⟩:=iR j.o cg.o d;cases he;have fw:=hI c1;rw[c1,bw,aU]at c;clear c1 s;obtain⟨C,g⟩:=xE ((b8 ds k).params);rw[<-g]at x1 c;clear g;have HV:=hI c;clear c;exact anD
 ·have HV:Hd (dA ds 20 a n len=false):=hI (by
   unfold dA;rw[ah (by simpa using m),ah (by simpa using o),ah (by simpa using q),ah (by simpa using r)])
  go_enter Tryz.func187,Tryz.ntmps187
  go_wp2;go_ret;exact⟨by rw[HV.o];rfl,cg.o⟩
def cq(L:Nat)(W W':World):Prop:=W.heap.size<=W'.heap.size/\∀b o,L<=b->W.heap[b]? =some o->W'.heap[b]? =some o
theorem cq.refl(L:Nat)(W:World):cq L W W:=⟨lR,λ_ _ _ h=>h⟩
theorem cq.trans{L:Nat}{A B C:World}(h:cq L A B)(h':cq L B C):cq L A C:=⟨ai h.1 h'.1,λb o a c=>h'.2 b o a (h.2 b o a c)⟩
theorem cq.cB{L:Nat}{A B:World}(h:Below A.heap.size A B):cq L A B:=⟨h.size,λb o _ a=>(h.block b (gE a).1).trans a⟩
theorem cq.below{L:Nat}{A B C:World}(h:cq L A B)(a:Below B.heap.size B C):cq L A C:=h.trans (cq.cB a)
theorem VK(v:Value)(n:Nat)(c:Nat->Value)(g:Nat)(caps:Array Value)(J d:Nat->World->Prop)(w:World)
 (m:∀args w,(callFunc g args).run Tryz.prog w=.ok (.enter g args) w)
 (j:∀k W W',J k W->Below W.heap.size W W'->J k W') (b:∀k W,J k W->Row W W.heap.size 3 v n c)
 (f:∀k,k<n->∀W,J k W->Calls Tryz.prog g (#[.agg #[c (k*3),c (k*3+1),c (k*3+2)]]++caps) W λe W'=>(e=.returned (.bool false)/\J (k+1) W')\/(e=.returned (.bool true)/\d k W')) (G:J 0 w):
  Calls Tryz.prog 278 #[v,.func (.func g) #[] caps] w λe W'=>(e=.returned (.int .i64 (-1))/\J n W')\/(∃k:Nat,k<n/\e=.returned (.int .i64 k)/\d k W'):=by
 obtain⟨o,a,cap,rfl,hc,_,_⟩:=b 0 w G;obtain⟨HF,HR,l⟩:=h_3 f b G;clear f b j G
 go_enter Tryz.func278,Tryz.ntmps278
 go_wp2
 go_loopw [8] (λi wr=>∃k:Nat,k<=n/\i=.int .i64 k/\J k wr) (λi _=>n-(intOf i).toNat)
 case atStart=>exact⟨0,aw _,rfl,l.o⟩
 case round=>
  exact amt
theorem VL(v:Value)(n:Nat)(c:Nat->Value)(g:Nat)(caps:Array Value)(J a:Nat->World->Prop)(w:World)
 (G:∀args w,(callFunc g args).run Tryz.prog w=.ok (.enter g args) w)
 (b:∀k W W',J k W->Below W.heap.size W W'->J k W') (d:∀k W,J k W->Row W W.heap.size 3 v n c)
 (f:∀k,k<n->∀W,J k W->Calls Tryz.prog g (#[.agg #[c (k*3),c (k*3+1),c (k*3+2)]]++caps) W λe W'=>(e=.returned (.bool false)/\J (k+1) W')\/(e=.returned (.bool true)/\a k W')) (h0:J 0 w):
  Calls Tryz.prog 258 #[v,.func (.func g) #[] caps] w λe W'=>(e=.returned (.bool false)/\J n W')\/(∃k:Nat,k<n/\e=.returned (.bool true)/\a k W'):=by
 have i:=hI (VK v n c g caps J a w G b d f h0);clear f d b h0 G
 go_enter Tryz.func258,Tryz.ntmps258
 go_wp2_with fail
 refine i.o.mono ?_;rintro e b (⟨rfl,hj⟩|⟨k,hk,rfl,hj⟩)
 ·exact amO
 ·exact aoo
theorem VM{x0 x1:Value}(g q:Nat)(caps:Array Value)(b c:World->Prop)(W:World)
 (i:∀args w,(callFunc g args).run Tryz.prog w=.ok (.enter g args) w)
 (f:W.cell? ⟨q,0,none⟩=some (.func (.func g) #[] caps))
 (G:∀V,Below W.heap.size W V->Calls Tryz.prog g (#[.agg #[x0,x1,a]]++caps) V λe W'=>(e=.returned (.bool true)/\b W')\/(e=.returned (.bool false)/\c W')):
  Calls Tryz.prog 259 #[.agg #[x0,x1,a],.pointer (some ⟨q,0,none⟩)] W λe W'=>(e=.returned (.bool false)/\b W')\/(e=.returned (.bool true)/\c W'):=by
 have d:=hI G;have j:q<W.heap.size:=af f;clear G
 go_enter Tryz.func259,Tryz.ntmps259
 go_wp2_with fail
 (first|refine(d.o _ (Below.cA _ _)).mono ?_|refine(d.o _ bR).mono ?_)
 rintro e k (⟨rfl,hj⟩|⟨rfl,hj⟩)
 ·exact amO
 ·exact ani
theorem NZ(L:Nat)(v:Value)(n:Nat)(c:Nat->Value)(g:Nat)(caps:Array Value)(J d:Nat->World->Prop)(w:World)(r:L<=w.heap.size)
 (l:∀args w,(callFunc g args).run Tryz.prog w=.ok (.enter g args) w)
 (G:∀k W W',J k W->Below W.heap.size W W'->J k W') (f:∀k W,J k W->Row W W.heap.size 3 v n c)
 (m:∀k,k<n->∀W,J k W->Calls Tryz.prog g (#[.agg #[c (k*3),c (k*3+1),c (k*3+2)]]++caps) W λe W'=>(e=.returned (.bool true)/\J (k+1) W'/\cq L W W')\/(e=.returned (.bool false)/\d k W')) (i:J 0 w):
  Calls Tryz.prog 232 #[v,.func (.func g) #[] caps] w λe W'=>(e=.returned (.bool true)/\J n W'/\cq L w W')\/(∃k:Nat,k<n/\e=.returned (.bool false)/\d k W'):=by
 obtain⟨y,a,cap,rfl,_⟩:=f 0 w i;obtain⟨w1,b⟩:=xE (w.alloc (.cells #[.func (.func g) #[] caps] 56));have o:w1.heap[w.heap.size]? =some (.cells #[.func (.func g) #[] caps] 56 (0,0)):=by rw[b];exact a_ _ _
 have j:Below w.heap.size w w1:=by rw[b];exact Below.cA w _
 have p:∀args w,(callFunc 259 args).run Tryz.prog w=.ok (.enter 259 args) w:=enters_of Tryz.func259 (by kernel_rfl) rfl;have s:=hI (VL (.slice a n cap) n c 259 #[.pointer (some ⟨w.heap.size,0,none⟩)] (λk W=>J k W/\cq L w1 W) d w1 p
  (λk W W' h q=>⟨G k W W' h.1 q,h.2.below q⟩) (λk W h=>f k W h.1)
  (λk hk W h=>VM g w.heap.size caps _ _ W l (by rw[cell_of_row _ _ _ _ _ _ (h.2.2 _ _ r o)];rfl) λV q=>(m k hk V (G k W V h.1 q)).mono λe W' hc=>hc.elim (fun⟨t,u,x⟩=>.inl ⟨t,u,(h.2.below q).trans x⟩) .inr)
  ⟨G 0 w w1 i j,cq.refl L w1⟩)
 have HK:Hd (∀W,cq L w1 W->cq L w W):=hI λW h=>((cq.refl L w).below j).trans h;have q:=hI b;clear m f G i l p o j b
 go_enter Tryz.func232,Tryz.ntmps232
 go_wp2_with fail
 rw[<-q.o];refine s.o.mono ?_;rintro e b (⟨rfl,hj⟩|⟨k,hk,rfl,hj⟩)
 ·exact am8
 ·have HJ:=hI hj;exact amT
theorem VN(v:Value)(n:Nat)(c:Nat->Value)(g:Nat)(caps:Array Value)(J d:Nat->World->Prop)(w:World)
 (m:∀args w,(callFunc g args).run Tryz.prog w=.ok (.enter g args) w)
 (j:∀k W W',J k W->Below W.heap.size W W'->J k W') (b:∀k W,J k W->Row W W.heap.size 3 v n c)
 (f:∀k,k<n->∀W,J k W->Calls Tryz.prog g (#[.agg #[c (k*3),c (k*3+1),c (k*3+2)]]++caps) W λe W'=>(e=.returned (.bool false)/\J (k+1) W')\/(e=.returned (.bool true)/\d k W')) (G:J 0 w):
  Calls Tryz.prog 254 #[v,.func (.func g) #[] caps] w λe W'=>(e=.returned (.int .i64 (-1))/\J n W')\/(∃k:Nat,k<n/\e=.returned (.int .i64 k)/\d k W'):=by
 obtain⟨o,a,cap,rfl,hc,_,_⟩:=b 0 w G;obtain⟨HF,HR,l⟩:=h_3 f b G;clear f b j G
 go_enter Tryz.func254,Tryz.ntmps254
 go_wp2
 go_loopw [8] (λi wr=>∃k:Nat,k<=n/\i=.int .i64 k/\J k wr) (λi _=>n-(intOf i).toNat)
 case atStart=>exact⟨0,aw _,rfl,l.o⟩
 case round=>
  exact amt
theorem VO(v:Value)(n:Nat)(c:Nat->Value)(g:Nat)(caps:Array Value)(J a:Nat->World->Prop)(w:World)
 (G:∀args w,(callFunc g args).run Tryz.prog w=.ok (.enter g args) w)
 (b:∀k W W',J k W->Below W.heap.size W W'->J k W') (d:∀k W,J k W->Row W W.heap.size 3 v n c)
 (f:∀k,k<n->∀W,J k W->Calls Tryz.prog g (#[.agg #[c (k*3),c (k*3+1),c (k*3+2)]]++caps) W λe W'=>(e=.returned (.bool false)/\J (k+1) W')\/(e=.returned (.bool true)/\a k W')) (h0:J 0 w):
  Calls Tryz.prog 223 #[v,.func (.func g) #[] caps] w λe W'=>(e=.returned (.bool false)/\J n W')\/(∃k:Nat,k<n/\e=.returned (.bool true)/\a k W'):=by
 have i:=hI (VN v n c g caps J a w G b d f h0);clear f d b h0 G
 go_enter Tryz.func223,Tryz.ntmps223
 go_wp2_with fail
 refine i.o.mono ?_;rintro e b (⟨rfl,hj⟩|⟨k,hk,rfl,hj⟩)
 ·exact amO
 ·exact aoo
theorem VP{x0 x1:Value}(g q:Nat)(caps:Array Value)(b c:World->Prop)(W:World)
 (i:∀args w,(callFunc g args).run Tryz.prog w=.ok (.enter g args) w)
 (f:W.cell? ⟨q,0,none⟩=some (.func (.func g) #[] caps))
 (G:∀V,Below W.heap.size W V->Calls Tryz.prog g (#[.agg #[x0,x1,a]]++caps) V λe W'=>(e=.returned (.bool true)/\b W')\/(e=.returned (.bool false)/\c W')):
  Calls Tryz.prog 224 #[.agg #[x0,x1,a],.pointer (some ⟨q,0,none⟩)] W λe W'=>(e=.returned (.bool false)/\b W')\/(e=.returned (.bool true)/\c W'):=by
 have d:=hI G;have j:q<W.heap.size:=af f;clear G
 go_enter Tryz.func224,Tryz.ntmps224
 go_wp2_with fail
 (first|refine(d.o _ (Below.cA _ _)).mono ?_|refine(d.o _ bR).mono ?_)
 rintro e k (⟨rfl,hj⟩|⟨rfl,hj⟩)
 ·exact amO
 ·exact ani
theorem yw(L:Nat)(v:Value)(n:Nat)(c:Nat->Value)(g:Nat)(caps:Array Value)(J d:Nat->World->Prop)(w:World)(r:L<=w.heap.size)
 (l:∀args w,(callFunc g args).run Tryz.prog w=.ok (.enter g args) w)
 (G:∀k W W',J k W->Below W.heap.size W W'->J k W') (f:∀k W,J k W->Row W W.heap.size 3 v n c)
 (m:∀k,k<n->∀W,J k W->Calls Tryz.prog g (#[.agg #[c (k*3),c (k*3+1),c (k*3+2)]]++caps) W λe W'=>(e=.returned (.bool true)/\J (k+1) W'/\cq L W W')\/(e=.returned (.bool false)/\d k W')) (i:J 0 w):
  Calls Tryz.prog 185 #[v,.func (.func g) #[] caps] w λe W'=>(e=.returned (.bool true)/\J n W'/\cq L w W')\/(∃k:Nat,k<n/\e=.returned (.bool false)/\d k W'):=by
 obtain⟨y,a,cap,rfl,_⟩:=f 0 w i;obtain⟨w1,b⟩:=xE (w.alloc (.cells #[.func (.func g) #[] caps] 80));have o:w1.heap[w.heap.size]? =some (.cells #[.func (.func g) #[] caps] 80 (0,0)):=by rw[b];exact a_ _ _
 have j:Below w.heap.size w w1:=by rw[b];exact Below.cA w _
 have p:∀args w,(callFunc 224 args).run Tryz.prog w=.ok (.enter 224 args) w:=enters_of Tryz.func224 (by kernel_rfl) rfl;have s:=hI (VO (.slice a n cap) n c 224 #[.pointer (some ⟨w.heap.size,0,none⟩)] (λk W=>J k W/\cq L w1 W) d w1 p
  (λk W W' h q=>⟨G k W W' h.1 q,h.2.below q⟩) (λk W h=>f k W h.1)
  (λk hk W h=>VP g w.heap.size caps _ _ W l (by rw[cell_of_row _ _ _ _ _ _ (h.2.2 _ _ r o)];rfl) λV q=>(m k hk V (G k W V h.1 q)).mono λe W' hc=>hc.elim (fun⟨t,u,x⟩=>.inl ⟨t,u,(h.2.below q).trans x⟩) .inr)
  ⟨G 0 w w1 i j,cq.refl L w1⟩)
 have HK:Hd (∀W,cq L w1 W->cq L w W):=hI λW h=>((cq.refl L w).below j).trans h;have q:=hI b;clear m f G i l p o j b
 go_enter Tryz.func185,Tryz.ntmps185
 go_wp2_with fail
 rw[<-q.o];refine s.o.mono ?_;rintro e b (⟨rfl,hj⟩|⟨k,hk,rfl,hj⟩)
 ·exact am8
 ·have HJ:=hI hj;exact amT
theorem VQ(v:Value)(n:Nat)(c:Nat->Value)(g:Nat)(caps:Array Value)(J d:Nat->World->Prop)(w:World)
 (m:∀args w,(callFunc g args).run Tryz.prog w=.ok (.enter g args) w)
 (j:∀k W W',J k W->Below W.heap.size W W'->J k W') (b:∀k W,J k W->Row W W.heap.size 3 v n c)
 (f:∀k,k<n->∀W,J k W->Calls Tryz.prog g (#[.agg #[c (k*3),c (k*3+1),c (k*3+2)]]++caps) W λe W'=>(e=.returned (.bool false)/\J (k+1) W')\/(e=.returned (.bool true)/\d k W')) (G:J 0 w):
  Calls Tryz.prog 252 #[v,.func (.func g) #[] caps] w λe W'=>(e=.returned (.int .i64 (-1))/\J n W')\/(∃k:Nat,k<n/\e=.returned (.int .i64 k)/\d k W'):=by
 obtain⟨o,a,cap,rfl,hc,_,_⟩:=b 0 w G;obtain⟨HF,HR,l⟩:=h_3 f b G;clear f b j G
 go_enter Tryz.func252,Tryz.ntmps252
 go_wp2
 go_loopw [8] (λi wr=>∃k:Nat,k<=n/\i=.int .i64 k/\J k wr) (λi _=>n-(intOf i).toNat)
 case atStart=>exact⟨0,aw _,rfl,l.o⟩
 case round=>
  exact amt
theorem VR(v:Value)(n:Nat)(c:Nat->Value)(g:Nat)(caps:Array Value)(J a:Nat->World->Prop)(w:World)
 (G:∀args w,(callFunc g args).run Tryz.prog w=.ok (.enter g args) w)
 (b:∀k W W',J k W->Below W.heap.size W W'->J k W') (d:∀k W,J k W->Row W W.heap.size 3 v n c)
 (f:∀k,k<n->∀W,J k W->Calls Tryz.prog g (#[.agg #[c (k*3),c (k*3+1),c (k*3+2)]]++caps) W λe W'=>(e=.returned (.bool false)/\J (k+1) W')\/(e=.returned (.bool true)/\a k W')) (h0:J 0 w):
  Calls Tryz.prog 219 #[v,.func (.func g) #[] caps] w λe W'=>(e=.returned (.bool false)/\J n W')\/(∃k:Nat,k<n/\e=.returned (.bool true)/\a k W'):=by
 have i:=hI (VQ v n c g caps J a w G b d f h0);clear f d b h0 G
 go_enter Tryz.func219,Tryz.ntmps219
 go_wp2_with fail
 refine i.o.mono ?_;rintro e b (⟨rfl,hj⟩|⟨k,hk,rfl,hj⟩)
 ·exact amO
 ·exact aoo
theorem VS{x0 x1:Value}(g q:Nat)(caps:Array Value)(b c:World->Prop)(W:World)
 (i:∀args w,(callFunc g args).run Tryz.prog w=.ok (.enter g args) w)
 (f:W.cell? ⟨q,0,none⟩=some (.func (.func g) #[] caps))
 (G:∀V,Below W.heap.size W V->Calls Tryz.prog g (#[.agg #[x0,x1,a]]++caps) V λe W'=>(e=.returned (.bool true)/\b W')\/(e=.returned (.bool false)/\c W')):
  Calls Tryz.prog 220 #[.agg #[x0,x1,a],.pointer (some ⟨q,0,none⟩)] W λe W'=>(e=.returned (.bool false)/\b W')\/(e=.returned (.bool true)/\c W'):=by
 have d:=hI G;have j:q<W.heap.size:=af f;clear G
 go_enter Tryz.func220,Tryz.ntmps220
 go_wp2_with fail
 (first|refine(d.o _ (Below.cA _ _)).mono ?_|refine(d.o _ bR).mono ?_)
 rintro e k (⟨rfl,hj⟩|⟨rfl,hj⟩)
 ·exact amO
 ·exact ani
theorem N4(L:Nat)(v:Value)(n:Nat)(c:Nat->Value)(g:Nat)(caps:Array Value)(J d:Nat->World->Prop)(w:World)(r:L<=w.heap.size)
 (l:∀args w,(callFunc g args).run Tryz.prog w=.ok (.enter g args) w)
 (G:∀k W W',J k W->Below W.heap.size W W'->J k W') (f:∀k W,J k W->Row W W.heap.size 3 v n c)
 (m:∀k,k<n->∀W,J k W->Calls Tryz.prog g (#[.agg #[c (k*3),c (k*3+1),c (k*3+2)]]++caps) W λe W'=>(e=.returned (.bool true)/\J (k+1) W'/\cq L W W')\/(e=.returned (.bool false)/\d k W')) (i:J 0 w):
  Calls Tryz.prog 180 #[v,.func (.func g) #[] caps] w λe W'=>(e=.returned (.bool true)/\J n W'/\cq L w W')\/(∃k:Nat,k<n/\e=.returned (.bool false)/\d k W'):=by
 obtain⟨y,a,cap,rfl,_⟩:=f 0 w i;obtain⟨w1,b⟩:=xE (w.alloc (.cells #[.func (.func g) #[] caps] 227));have o:w1.heap[w.heap.size]? =some (.cells #[.func (.func g) #[] caps] 227 (0,0)):=by rw[b];exact a_ _ _
 have j:Below w.heap.size w w1:=by rw[b];exact Below.cA w _
 have p:∀args w,(callFunc 220 args).run Tryz.prog w=.ok (.enter 220 args) w:=enters_of Tryz.func220 (by kernel_rfl) rfl;have s:=hI (VR (.slice a n cap) n c 220 #[.pointer (some ⟨w.heap.size,0,none⟩)] (λk W=>J k W/\cq L w1 W) d w1 p
  (λk W W' h q=>⟨G k W W' h.1 q,h.2.below q⟩) (λk W h=>f k W h.1)
  (λk hk W h=>VS g w.heap.size caps _ _ W l (by rw[cell_of_row _ _ _ _ _ _ (h.2.2 _ _ r o)];rfl) λV q=>(m k hk V (G k W V h.1 q)).mono λe W' hc=>hc.elim (fun⟨t,u,x⟩=>.inl ⟨t,u,(h.2.below q).trans x⟩) .inr)
  ⟨G 0 w w1 i j,cq.refl L w1⟩)
 have HK:Hd (∀W,cq L w1 W->cq L w W):=hI λW h=>((cq.refl L w).below j).trans h;have q:=hI b;clear m f G i l p o j b
 go_enter Tryz.func180,Tryz.ntmps180
 go_wp2_with fail
 rw[<-q.o];refine s.o.mono ?_;rintro e b (⟨rfl,hj⟩|⟨k,hk,rfl,hj⟩)
 ·exact am8
 ·have HJ:=hI hj;exact amT
theorem VT(v:Value)(n:Nat)(c:Nat->Value)(g:Nat)(caps:Array Value)(J f:Nat->World->Prop)(w:World)
 (p:∀args w,(callFunc g args).run Tryz.prog w=.ok (.enter g args) w)
 (l:∀k W W',J k W->Below W.heap.size W W'->J k W') (G:∀k W,J k W->Row W W.heap.size 6 v n c)
 (j:∀k,k<n->∀W,J k W->Calls Tryz.prog g (#[.agg #[c (k*6),c (k*6+1),c (k*6+2),c (k*6+3),c (k*6+4),c (k*6+5)]]++caps) W λe W'=>(e=.returned (.bool false)/\J (k+1) W')\/(e=.returned (.bool true)/\f k W')) (d:J 0 w):
  Calls Tryz.prog 228 #[v,.func (.func g) #[] caps] w λe W'=>(e=.returned (.int .i64 (-1))/\J n W')\/(∃k:Nat,k<n/\e=.returned (.int .i64 k)/\f k W'):=by
 obtain⟨q,a,cap,rfl,hc,_,_⟩:=G 0 w d;obtain⟨HF,m,o⟩:=h_3 j G d;clear j G l d
 go_enter Tryz.func228,Tryz.ntmps228
 go_wp2
 go_loopw [8] (λi wr=>∃k:Nat,k<=n/\i=.int .i64 k/\J k wr) (λi _=>n-(intOf i).toNat)
 case atStart=>exact⟨0,aw _,rfl,o.o⟩
 case round=>
  obtain⟨k,d,rfl,hj⟩:=hrel;by_cases bO:k<n
  ·obtain⟨_,_,_,he,_,_,hr⟩:=m.o k wr hj;cases he;obtain⟨b,off,rfl,j,bX⟩:=hr (by omega);have l:(k:Int)<(n:Int):=by omega
   have c0:=bX (k*6) (by omega);have c1:=bX (k*6+1) (by omega);have c2:=bX (k*6+2) (by omega);have c3:=bX (k*6+3) (by omega);have c4:=bX (k*6+4) (by omega);have c5:=bX (k*6+5) (by omega);rw[<-bN]at c1 c2 c3 c4 c5;exact amv
  ·exact am0
theorem VU(v:Value)(n:Nat)(c:Nat->Value)(g:Nat)(caps:Array Value)(J a:Nat->World->Prop)(w:World)
 (G:∀args w,(callFunc g args).run Tryz.prog w=.ok (.enter g args) w)
 (b:∀k W W',J k W->Below W.heap.size W W'->J k W') (d:∀k W,J k W->Row W W.heap.size 6 v n c)
 (f:∀k,k<n->∀W,J k W->Calls Tryz.prog g (#[.agg #[c (k*6),c (k*6+1),c (k*6+2),c (k*6+3),c (k*6+4),c (k*6+5)]]++caps) W λe W'=>(e=.returned (.bool false)/\J (k+1) W')\/(e=.returned (.bool true)/\a k W')) (h0:J 0 w):
  Calls Tryz.prog 196 #[v,.func (.func g) #[] caps] w λe W'=>(e=.returned (.bool false)/\J n W')\/(∃k:Nat,k<n/\e=.returned (.bool true)/\a k W'):=by
 have i:=hI (VT v n c g caps J a w G b d f h0);clear f d b h0 G
 go_enter Tryz.func196,Tryz.ntmps196
 go_wp2_with fail
 refine i.o.mono ?_;rintro e b (⟨rfl,hj⟩|⟨k,hk,rfl,hj⟩)
 ·exact amO
 ·exact aoo
theorem VV{x0 x1 b c d:Value}(g q:Nat)(caps:Array Value)(f i:World->Prop)(W:World)
 (l:∀args w,(callFunc g args).run Tryz.prog w=.ok (.enter g args) w)
 (k:W.cell? ⟨q,0,none⟩=some (.func (.func g) #[] caps))
 (G:∀V,Below W.heap.size W V->Calls Tryz.prog g (#[.agg #[x0,x1,a,b,c,d]]++caps) V λe W'=>(e=.returned (.bool true)/\f W')\/(e=.returned (.bool false)/\i W')):
  Calls Tryz.prog 197 #[.agg #[x0,x1,a,b,c,d],.pointer (some ⟨q,0,none⟩)] W λe W'=>(e=.returned (.bool false)/\f W')\/(e=.returned (.bool true)/\i W'):=by
 have j:=hI G;have m:q<W.heap.size:=af k;clear G
 go_enter Tryz.func197,Tryz.ntmps197
 go_wp2_with fail
 (first|refine(j.o _ (Below.cA _ _)).mono ?_|refine(j.o _ bR).mono ?_)
 rintro e n (⟨rfl,hj⟩|⟨rfl,hj⟩)
 ·exact amO
 ·exact ani
theorem N5(L:Nat)(v:Value)(n:Nat)(c:Nat->Value)(g:Nat)(caps:Array Value)(J d:Nat->World->Prop)(w:World)(r:L<=w.heap.size)
 (l:∀args w,(callFunc g args).run Tryz.prog w=.ok (.enter g args) w)
 (G:∀k W W',J k W->Below W.heap.size W W'->J k W') (f:∀k W,J k W->Row W W.heap.size 6 v n c)
 (m:∀k,k<n->∀W,J k W->Calls Tryz.prog g (#[.agg #[c (k*6),c (k*6+1),c (k*6+2),c (k*6+3),c (k*6+4),c (k*6+5)]]++caps) W λe W'=>(e=.returned (.bool true)/\J (k+1) W'/\cq L W W')\/(e=.returned (.bool false)/\d k W')) (i:J 0 w):
  Calls Tryz.prog 146 #[v,.func (.func g) #[] caps] w λe W'=>(e=.returned (.bool true)/\J n W'/\cq L w W')\/(∃k:Nat,k<n/\e=.returned (.bool false)/\d k W'):=by
 obtain⟨y,a,cap,rfl,_⟩:=f 0 w i;obtain⟨w1,b⟩:=xE (w.alloc (.cells #[.func (.func g) #[] caps] 170));have o:w1.heap[w.heap.size]? =some (.cells #[.func (.func g) #[] caps] 170 (0,0)):=by rw[b];exact a_ _ _
 have j:Below w.heap.size w w1:=by rw[b];exact Below.cA w _
 have p:∀args w,(callFunc 197 args).run Tryz.prog w=.ok (.enter 197 args) w:=enters_of Tryz.func197 (by kernel_rfl) rfl;have s:=hI (VU (.slice a n cap) n c 197 #[.pointer (some ⟨w.heap.size,0,none⟩)] (λk W=>J k W/\cq L w1 W) d w1 p
  (λk W W' h q=>⟨G k W W' h.1 q,h.2.below q⟩) (λk W h=>f k W h.1)
  (λk hk W h=>VV g w.heap.size caps _ _ W l (by rw[cell_of_row _ _ _ _ _ _ (h.2.2 _ _ r o)];rfl) λV q=>(m k hk V (G k W V h.1 q)).mono λe W' hc=>hc.elim (fun⟨t,u,x⟩=>.inl ⟨t,u,(h.2.below q).trans x⟩) .inr)
  ⟨G 0 w w1 i j,cq.refl L w1⟩)
 have HK:Hd (∀W,cq L w1 W->cq L w W):=hI λW h=>((cq.refl L w).below j).trans h;have q:=hI b;clear m f G i l p o j b
 go_enter Tryz.func146,Tryz.ntmps146
 go_wp2_with fail
 rw[<-q.o];refine s.o.mono ?_;rintro e b (⟨rfl,hj⟩|⟨k,hk,rfl,hj⟩)
 ·exact am8
 ·have HJ:=hI hj;exact amT
theorem aav(v:Value)(n:Nat)(c:Nat->Value)(g:Nat)(caps:Array Value)(J f:Nat->World->Prop)(w:World)
 (p:∀args w,(callFunc g args).run Tryz.prog w=.ok (.enter g args) w)
 (l:∀k W W',J k W->Below W.heap.size W W'->J k W') (G:∀k W,J k W->Row W W.heap.size 1 v n c)
 (j:∀k,k<n->∀W,J k W->Calls Tryz.prog g (#[c k]++caps) W λe W'=>(e=.returned (.bool false)/\J (k+1) W')\/(e=.returned (.bool true)/\f k W')) (d:J 0 w):
  Calls Tryz.prog 253 #[v,.func (.func g) #[] caps] w λe W'=>(e=.returned (.int .i64 (-1))/\J n W')\/(∃k:Nat,k<n/\e=.returned (.int .i64 k)/\f k W'):=by
 obtain⟨q,a,cap,rfl,hc,_,_⟩:=G 0 w d;obtain⟨HF,m,o⟩:=h_3 j G d;clear j G l d
 go_enter Tryz.func253,Tryz.ntmps253
 go_wp2
 go_loopw [8] (λi wr=>∃k:Nat,k<=n/\i=.int .i64 k/\J k wr) (λi _=>n-(intOf i).toNat)
 case atStart=>exact⟨0,aw _,rfl,o.o⟩
 case round=>
  obtain⟨k,d,rfl,hj⟩:=hrel;by_cases bO:k<n
  ·obtain⟨_,_,_,he,_,_,hr⟩:=m.o k wr hj;cases he;obtain⟨b,off,rfl,j,bX⟩:=hr (by omega);have l:(k:Int)<(n:Int):=by omega
   have c0:=bX k (by omega);exact amv
  ·exact am0
theorem aaw(v:Value)(n:Nat)(c:Nat->Value)(g:Nat)(caps:Array Value)(J a:Nat->World->Prop)(w:World)
 (G:∀args w,(callFunc g args).run Tryz.prog w=.ok (.enter g args) w)
 (b:∀k W W',J k W->Below W.heap.size W W'->J k W') (d:∀k W,J k W->Row W W.heap.size 1 v n c)
 (f:∀k,k<n->∀W,J k W->Calls Tryz.prog g (#[c k]++caps) W λe W'=>(e=.returned (.bool false)/\J (k+1) W')\/(e=.returned (.bool true)/\a k W')) (h0:J 0 w):
  Calls Tryz.prog 221 #[v,.func (.func g) #[] caps] w λe W'=>(e=.returned (.bool false)/\J n W')\/(∃k:Nat,k<n/\e=.returned (.bool true)/\a k W'):=by
 have i:=hI (aav v n c g caps J a w G b d f h0);clear f d b h0 G
 go_enter Tryz.func221,Tryz.ntmps221
 go_wp2_with fail
 refine i.o.mono ?_;rintro e b (⟨rfl,hj⟩|⟨k,hk,rfl,hj⟩)
 ·exact amO
 ·exact aoo
theorem aax{x0:Value}(g q:Nat)(caps:Array Value)(a b:World->Prop)(W:World)
 (f:∀args w,(callFunc g args).run Tryz.prog w=.ok (.enter g args) w)
 (d:W.cell? ⟨q,0,none⟩=some (.func (.func g) #[] caps))
 (G:∀V,Below W.heap.size W V->Calls Tryz.prog g (#[x0]++caps) V λe W'=>(e=.returned (.bool true)/\a W')\/(e=.returned (.bool false)/\b W')):
  Calls Tryz.prog 222 #[x0,.pointer (some ⟨q,0,none⟩)] W λe W'=>(e=.returned (.bool false)/\a W')\/(e=.returned (.bool true)/\b W'):=by
 have c:=hI G;have i:q<W.heap.size:=af d;clear G
 go_enter Tryz.func222,Tryz.ntmps222
 go_wp2_with fail
 (first|refine(c.o _ (Below.cA _ _)).mono ?_|refine(c.o _ bR).mono ?_)
 rintro e j (⟨rfl,hj⟩|⟨rfl,hj⟩)
 ·exact amO
 ·exact ani
theorem R_(L:Nat)(v:Value)(n:Nat)(c:Nat->Value)(g:Nat)(caps:Array Value)(J d:Nat->World->Prop)(w:World)(r:L<=w.heap.size)
 (l:∀args w,(callFunc g args).run Tryz.prog w=.ok (.enter g args) w)
 (G:∀k W W',J k W->Below W.heap.size W W'->J k W') (f:∀k W,J k W->Row W W.heap.size 1 v n c)
 (m:∀k,k<n->∀W,J k W->Calls Tryz.prog g (#[c k]++caps) W λe W'=>(e=.returned (.bool true)/\J (k+1) W'/\cq L W W')\/(e=.returned (.bool false)/\d k W')) (i:J 0 w):
  Calls Tryz.prog 183 #[v,.func (.func g) #[] caps] w λe W'=>(e=.returned (.bool true)/\J n W'/\cq L w W')\/(∃k:Nat,k<n/\e=.returned (.bool false)/\d k W'):=by
 obtain⟨y,a,cap,rfl,_⟩:=f 0 w i;obtain⟨w1,b⟩:=xE (w.alloc (.cells #[.func (.func g) #[] caps] 62));have o:w1.heap[w.heap.size]? =some (.cells #[.func (.func g) #[] caps] 62 (0,0)):=by rw[b];exact a_ _ _
 have j:Below w.heap.size w w1:=by rw[b];exact Below.cA w _
 have p:∀args w,(callFunc 222 args).run Tryz.prog w=.ok (.enter 222 args) w:=enters_of Tryz.func222 (by kernel_rfl) rfl;have s:=hI (aaw (.slice a n cap) n c 222 #[.pointer (some ⟨w.heap.size,0,none⟩)] (λk W=>J k W/\cq L w1 W) d w1 p
  (λk W W' h q=>⟨G k W W' h.1 q,h.2.below q⟩) (λk W h=>f k W h.1)
  (λk hk W h=>aax g w.heap.size caps _ _ W l (by rw[cell_of_row _ _ _ _ _ _ (h.2.2 _ _ r o)];rfl) λV q=>(m k hk V (G k W V h.1 q)).mono λe W' hc=>hc.elim (fun⟨t,u,x⟩=>.inl ⟨t,u,(h.2.below q).trans x⟩) .inr)
  ⟨G 0 w w1 i j,cq.refl L w1⟩)
 have HK:Hd (∀W,cq L w1 W->cq L w W):=hI λW h=>((cq.refl L w).below j).trans h;have q:=hI b;clear m f G i l p o j b
 go_enter Tryz.func183,Tryz.ntmps183
 go_wp2_with fail
 rw[<-q.o];refine s.o.mono ?_;rintro e b (⟨rfl,hj⟩|⟨k,hk,rfl,hj⟩)
 ·exact am8
 ·have HJ:=hI hj;exact amT
theorem jo{F:Fence}(b:F.depth=none){m:Nat}(e:Nat){P:Program}{l:Nat}{args:Array Value}{W:World}{R:Ending->World->Prop}(h:YieldAt F m P l args W R):YieldAt F e P l args W R:=by
 obtain⟨fn,tmps,assign,body,hy,a⟩:=h;exact⟨fn,tmps,assign,body,hy,a.1,λc cs _=>a.2 c cs (λd h=>by rw[b]at h;cases h)⟩
def iU:Fo->List Nd
 | .nil=>[]
 | .cons a n k r=>⟨a,n,k⟩::(iU k++iU r)
def dM(t:Nd):List Nd:=t::iU t.k
def nK:Fo->Nat->List Nd
 | .nil,_=>[]
 | .cons _ _ _ _,0=>[]
 | .cons a n k r,i+1=>dM ⟨a,n,k⟩++nK r i
theorem sR:∀F:Fo,nK F 0=[]
 | .nil=>rfl
 | .cons _ _ _ _=>rfl
theorem lL:∀{F:Fo} {i:Nat},i<F.len->nK F (i+1)=nK F i++dM (F.at i)
 | .nil,_,h=>ay h (ax _)
 | .cons a n k r,0,_=>by unfold nK;rw[sR];simp[Fo.at]
 | .cons a n k r,i+1,h=>by
  show dM ⟨a,n,k⟩++nK r (i+1)=dM ⟨a,n,k⟩++nK r i++dM (r.at i);rw[lL (F:=r) (i:=i) (by unfold Fo.len at h;omega),aG]
theorem wk:∀F:Fo,nK F F.len=iU F
 | .nil=>rfl
 | .cons a n k r=>by
  show dM ⟨a,n,k⟩++nK r r.len=_;rw[wk r];simp[dM,iU]
theorem sS:∀(F:Fo) (i:Nat),∃rest,iU F=nK F i++rest
 | .nil,_=>⟨[],rfl⟩
 | .cons a n k r,0=>⟨iU (.cons a n k r),rfl⟩
 | .cons a n k r,i+1=>by
  obtain⟨rest,h⟩:=sS r i;exact⟨rest,by show(⟨a,n,k⟩:Nd)::(iU k++iU r)=_;rw[h];simp[nK,dM]⟩
theorem Ll(l L f:Nat)(w0:World)(z:f<=w0.heap.size)(I:f<=L)(all:List Nd)(J g:List Nd->World->Prop)
 (j:∀pre W W',J pre W->Below W.heap.size W W'->J pre W') (hB:∀pre W,J pre W->Below f w0 W)
 (s:∀pre t post v W,pre++t::post=all->J pre W->cV w0 f v t->YieldAt Fence.wide 0 Tryz.prog l #[v] W λe W'=>(e=.returned (.bool true)/\J (pre++[t]) W'/\cq L W W')\/(e=.returned (.bool false)/\g (pre++[t]) W'))
 (q1 d:Nat) (A:L<=q1) (u:L<=d):∀(m:Nat) (t:Nd) (v:Value) (pre post:List Nd) (W:World),t.size<=m->cV w0 f v t->pre++dM t++post=all->J pre W->L<=W.heap.size->
  W.heap[q1]? =some (.cells #[.func (.yield l) #[] #[]] 56 (0,0))->W.heap[d]? =some (.cells #[.func (.func 231) #[] #[.pointer (some ⟨q1,0,none⟩),.pointer (some ⟨d,0,none⟩)]] 56 (0,0))->
  Calls Tryz.prog 231 #[v,.pointer (some ⟨q1,0,none⟩),.pointer (some ⟨d,0,none⟩)] W λe W'=>(e=.returned (.bool true)/\J (pre++dM t) W'/\cq L W W')\/(e=.returned (.bool false)/\∃q,g q W')
 |0,t,_,_,_,_,h,_,_,_,_,_,_=>ay h (by unfold Nd.size;omega)
 |m+1,t,v,pre,post,W,hm,B,he,C,x,y,p=>by
  have D:=B;obtain⟨kv,rfl,c,r,E⟩:=B;have K:∀args w,(callFunc 231 args).run Tryz.prog w=.ok (.enter 231 args) w:=enters_of Tryz.func231 (by kernel_rfl) rfl;have HE:Hd (∀V,J (pre++[t]) V->cq L W V->Calls Tryz.prog 232 #[kv,.func (.func 231) #[] #[.pointer (some ⟨q1,0,none⟩),.pointer (some ⟨d,0,none⟩)]] V λe W'=>
   (e=.returned (.bool true)/\J (pre++dM t) W'/\cq L W W')\/(e=.returned (.bool false)/\∃q,g q W')):=hI λV i H=>by
   refine(NZ L kv t.k.len c 231 #[.pointer (some ⟨q1,0,none⟩),.pointer (some ⟨d,0,none⟩)] (λk X=>J (pre++[t]++nK t.k k) X/\cq L W X) (λ_ X=>∃q,g q X) V (ai x H.1) K
    (λk X X' h G=>⟨j _ X X' h.1 G,h.2.below G⟩)
    (λk X h=>(r.below (hB _ X h.1) lR).mono (ai z (hB _ X h.1).size))
    (λk ua X h=> ?_) ⟨by rw[sR,bk];exact i,H⟩).mono ?_
   ·obtain⟨c0,c1,c2⟩:=E.at ua;obtain⟨rest,M⟩:=sS t.k (k+1);have:=Ll l L f w0 z I all J g j hB s q1 d A u m (t.k.at k) (.agg #[c (k*3),c (k*3+1),c (k*3+2)]) (pre++[t]++nK t.k k) (rest++post) X
     (by have:=Fo.eD ua;unfold Nd.size at hm |-;omega) ⟨_,by rw[c0,c1],c2⟩
     (by rw[<-he];unfold dM at*;rw[M,lL ua];simp[aG,dM]) h.1 (ai x h.2.1) (h.2.2 _ _ A y) (h.2.2 _ _ u p)
    exact ano
   ·exact am6
  have G:Hd (∀V,Below W.heap.size W V->YieldAt Fence.wide 0 Tryz.prog l #[.agg #[.int .i64 t.a,.int .i64 t.n,kv]] V λe W'=>(e=.returned (.bool true)/\J (pre++[t]) W'/\cq L W W'/\W'.heap[d]? =some (.cells #[.func (.func 231) #[] #[.pointer (some ⟨q1,0,none⟩),.pointer (some ⟨d,0,none⟩)]] 56 (0,0))/\(∀o,V.heap[W.heap.size]? =some o->W'.heap[W.heap.size]? =some o))\/(e=.returned (.bool false)/\∃q,g q W')):=hI λV i=>
   (s pre t (iU t.k++post) _ V (by rw[<-he];simp[dM]) (j _ _ _ C i) D).mono λe W' hc=>hc.elim
    (fun⟨a1,a2,a3⟩=>.inl ⟨a1,a2,(cq.cB i).trans a3,a3.2 _ _ u (i.block d (gE p).1 |>.trans p),λo H=>a3.2 _ _ x H⟩) fun⟨a1,a2⟩=>.inr ⟨a1,_,a2⟩
  have M:=cZ y;have O:q1<W.heap.size:=af M;obtain⟨ka,kc,rfl⟩:∃a b,kv=.slice a t.k.len b:=by obtain⟨_,a,b,N,_⟩:=r;exact⟨a,b,N⟩
  obtain⟨fn,tmps,assign,body,hy,H⟩:=jo (F:=Fence.wide) rfl 0 (G.o (W.alloc (.cells #[.int .i64 t.a,.int .i64 t.n,.slice ka t.k.len kc] 54)) (Below.cA _ _));have fw:Hd ((W.alloc (.cells #[.int .i64 t.a,.int .i64 t.n,.slice ka t.k.len kc] 54)).heap[W.heap.size]? =some (.cells #[.int .i64 t.a,.int .i64 t.n,.slice ka t.k.len kc] 54 (0,0))):=hI (a_ _ _);have HR:=hI H;have P:t.k.len<=140737488355328:=r.1;clear H;clear D r E y p C G j hB s;refine(callsIn_wide (n:=0)).1 ?_;refine callsIn_of_wp Tryz.func231 rfl trivial ?_ rfl;simp only[Tryz.ntmps231,List.size_toArray,aD,List.length_nil,Nat.reduceAdd,Nat.reduceSub,Array.replicate_succ,Array.replicate_zero,List.push_toArray,List.append_toArray,bL,bJ]
  gi_wp2_with fail
  exact amJ
theorem Lm(l L f:Nat)(w0:World)(z:f<=w0.heap.size)(I:f<=L)(all:List Nd)(J g:List Nd->World->Prop)
 (j:∀pre W W',J pre W->Below W.heap.size W W'->J pre W') (hB:∀pre W,J pre W->Below f w0 W)
 (s:∀pre t post v W,pre++t::post=all->J pre W->cV w0 f v t->YieldAt Fence.wide 0 Tryz.prog l #[v] W λe W'=>(e=.returned (.bool true)/\J (pre++[t]) W'/\cq L W W')\/(e=.returned (.bool false)/\g (pre++[t]) W'))
 (q1 d:Nat) (A:L<=q1) (u:L<=d):∀(m:Nat) (t:Nd) (v:Value) (pre post:List Nd) (W:World),t.size<=m->cV w0 f v t->pre++dM t++post=all->J pre W->L<=W.heap.size->
  W.heap[q1]? =some (.cells #[.func (.yield l) #[] #[]] 80 (0,0))->W.heap[d]? =some (.cells #[.func (.func 226) #[] #[.pointer (some ⟨q1,0,none⟩),.pointer (some ⟨d,0,none⟩)]] 80 (0,0))->
  Calls Tryz.prog 226 #[v,.pointer (some ⟨q1,0,none⟩),.pointer (some ⟨d,0,none⟩)] W λe W'=>(e=.returned (.bool true)/\J (pre++dM t) W'/\cq L W W')\/(e=.returned (.bool false)/\∃q,g q W')
 |0,t,_,_,_,_,h,_,_,_,_,_,_=>ay h (by unfold Nd.size;omega)
 |m+1,t,v,pre,post,W,hm,B,he,C,x,y,p=>by
  have D:=B;obtain⟨kv,rfl,c,r,E⟩:=B;have K:∀args w,(callFunc 226 args).run Tryz.prog w=.ok (.enter 226 args) w:=enters_of Tryz.func226 (by kernel_rfl) rfl;have HE:Hd (∀V,J (pre++[t]) V->cq L W V->Calls Tryz.prog 185 #[kv,.func (.func 226) #[] #[.pointer (some ⟨q1,0,none⟩),.pointer (some ⟨d,0,none⟩)]] V λe W'=>
   (e=.returned (.bool true)/\J (pre++dM t) W'/\cq L W W')\/(e=.returned (.bool false)/\∃q,g q W')):=hI λV i H=>by
   refine(yw L kv t.k.len c 226 #[.pointer (some ⟨q1,0,none⟩),.pointer (some ⟨d,0,none⟩)] (λk X=>J (pre++[t]++nK t.k k) X/\cq L W X) (λ_ X=>∃q,g q X) V (ai x H.1) K
    (λk X X' h G=>⟨j _ X X' h.1 G,h.2.below G⟩)
    (λk X h=>(r.below (hB _ X h.1) lR).mono (ai z (hB _ X h.1).size))
    (λk ua X h=> ?_) ⟨by rw[sR,bk];exact i,H⟩).mono ?_
   ·obtain⟨c0,c1,c2⟩:=E.at ua;obtain⟨rest,M⟩:=sS t.k (k+1);have:=Lm l L f w0 z I all J g j hB s q1 d A u m (t.k.at k) (.agg #[c (k*3),c (k*3+1),c (k*3+2)]) (pre++[t]++nK t.k k) (rest++post) X
     (by have:=Fo.eD ua;unfold Nd.size at hm |-;omega) ⟨_,by rw[c0,c1],c2⟩
     (by rw[<-he];unfold dM at*;rw[M,lL ua];simp[aG,dM]) h.1 (ai x h.2.1) (h.2.2 _ _ A y) (h.2.2 _ _ u p)
    exact ano
   ·exact am6
  have G:Hd (∀V,Below W.heap.size W V->YieldAt Fence.wide 0 Tryz.prog l #[.agg #[.int .i64 t.a,.int .i64 t.n,kv]] V λe W'=>(e=.returned (.bool true)/\J (pre++[t]) W'/\cq L W W'/\W'.heap[d]? =some (.cells #[.func (.func 226) #[] #[.pointer (some ⟨q1,0,none⟩),.pointer (some ⟨d,0,none⟩)]] 80 (0,0))/\(∀o,V.heap[W.heap.size]? =some o->W'.heap[W.heap.size]? =some o))\/(e=.returned (.bool false)/\∃q,g q W')):=hI λV i=>
   (s pre t (iU t.k++post) _ V (by rw[<-he];simp[dM]) (j _ _ _ C i) D).mono λe W' hc=>hc.elim
    (fun⟨a1,a2,a3⟩=>.inl ⟨a1,a2,(cq.cB i).trans a3,a3.2 _ _ u (i.block d (gE p).1 |>.trans p),λo H=>a3.2 _ _ x H⟩) fun⟨a1,a2⟩=>.inr ⟨a1,_,a2⟩
  have M:=cZ y;have O:q1<W.heap.size:=af M;obtain⟨ka,kc,rfl⟩:∃a b,kv=.slice a t.k.len b:=by obtain⟨_,a,b,N,_⟩:=r;exact⟨a,b,N⟩
  obtain⟨fn,tmps,assign,body,hy,H⟩:=jo (F:=Fence.wide) rfl 0 (G.o (W.alloc (.cells #[.int .i64 t.a,.int .i64 t.n,.slice ka t.k.len kc] 26)) (Below.cA _ _));have fw:Hd ((W.alloc (.cells #[.int .i64 t.a,.int .i64 t.n,.slice ka t.k.len kc] 26)).heap[W.heap.size]? =some (.cells #[.int .i64 t.a,.int .i64 t.n,.slice ka t.k.len kc] 26 (0,0))):=hI (a_ _ _);have HR:=hI H;have P:t.k.len<=140737488355328:=r.1;clear H;clear D r E y p C G j hB s;refine(callsIn_wide (n:=0)).1 ?_;refine callsIn_of_wp Tryz.func226 rfl trivial ?_ rfl;simp only[Tryz.ntmps226,List.size_toArray,aD,List.length_nil,Nat.reduceAdd,Nat.reduceSub,Array.replicate_succ,Array.replicate_zero,List.push_toArray,List.append_toArray,bL,bJ]
  gi_wp2_with fail
  exact amJ
end
end Go.Proofs.YtnicceekibancaaGreat
