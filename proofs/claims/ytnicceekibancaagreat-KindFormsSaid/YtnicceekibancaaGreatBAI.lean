/- Lemmas: TypA TypZ TeV TypY AccC UniA ExA FndA UniB AccD AccE Most FndB AccF AccG KBd UniC. -/
import Derived.Test.YtnicceekibancaaGreatBZ
import Derived.Test.YtnicceekibancaaGreatBAH
import Derived.Deep.Cut
import Derived.Test.YtnicceekibancaaGreatBAF
import Derived.Test.YtnicceekibancaaGreatBAC
import Derived.Test.YtnicceekibancaaGreatBAD
import Derived.Test.YtnicceekibancaaGreatBAG
import Derived.Test.YtnicceekibancaaGreatBAE
set_option linter.all false
set_option maxRecDepth 100000
set_option maxHeartbeats 8000000
namespace Go.Proofs.YtnicceekibancaaGreat
variable{R:Nat->Nat->Bool}{S:Ck}{W W' w w':World}{X:CX}{Z:Nat->Prop}{c j k n:Nat}{g:Gr}{m:Md}{r:Option Nat}{v:Value}
section
open Go Go.RowKit Go.Sort
attribute [local go_sem] aT cW df
theorem rh:∀(m:Nat) (done:Nat->Bool),(jB R n m done).length<=m
 |0,_=>aw _
 |m+1,done=>by
  unfold jB
  split
  ·simp
  ·simp only[aD];exact Nat.succ_le_succ (rh m _)
theorem tE:∀(m:Nat) (done:Nat->Bool),∀l∈jB R n m done,l.length<=n
 |0,_,l,h=>by cases h
 |m+1,done,l,h=>by
  unfold jB at h
  split at h
  ·cases h
  ·rcases aE.1 h with rfl|h
   ·unfold oE;exact aof
   ·exact tE m _ l h
def afx(w:World)(r:Um)(e:Ending)(w':World):Prop:=Below w.heap.size w w'/\match r with
 | .ok types=>∃tv,e=.returned (.tuple #[tv,.slice none 0 0,.int .i64 0])/\dr w' w'.heap.size tv (Fo.of types)/\∀j,j<types.length->(types[j]?.getD default).ok/\(types[j]?.getD default).QS
 | .rp l=>∃gv,e=.returned (.tuple #[.slice none 0 0,gv,.int .i64 7])/\Ints w' w'.heap.size gv (cX l)
 | .px l=>∃gv,e=.returned (.tuple #[.slice none 0 0,gv,.int .i64 3])/\Ints w' w'.heap.size gv (cX l)
theorem jR.ai0{base:Nat}{ov:Value}{gs:List (List Nat)}{vals:List Value}(h:jR base W ov gs vals){tb:Nat}{c0:Array Value}(j:W.heap[tb]? =some (.cells c0 26 (0,0)))(k:vo tb W W'):jR base W' ov gs vals:=by
 have d:∀(b:Nat) (cur:Array Value) (t:TypeId) (f:Nat×Nat),t≠26->W.heap[b]? =some (Obj.cells cur t f)->W'.heap[b]? =some (Obj.cells cur t f):=λb cur t f a c=>k.same _ _ (λe=>by
  subst e;rw[j]at c;cases c;exact a rfl) c
 refine⟨h.len,⟨h.own.1,?_⟩,λi hi=>(h.parts i hi).keep λb cur f l=>d _ _ _ _ (by decide) l⟩;rcases h.own.2 with a|⟨g,cap,cur,rfl,m,n,o⟩
 ·exact .inl a
 ·exact .inr ⟨g,cap,cur,rfl,m,d _ _ _ _ (by decide) n,o⟩
theorem jR.cell{base:Nat}{ov:Value}{gs:List (List Nat)}{vals:List Value}(h:jR base W ov gs vals)(hk:k<gs.length):
 ∃b cap p a,ov=.slice (some ⟨b,0,none⟩) gs.length cap/\b<W.heap.size/\W.cell? ⟨b,k,none⟩=some (.slice p (AP gs k).length a)/\dw W (.slice p (AP gs k).length a) (AP gs k):=by
 rcases h.own.2 with⟨_,e⟩|⟨g,cap,cur,rfl,c,h3,d,f,i,h7⟩
 ·omega
 ·have hp:=h.parts k hk;obtain⟨p,a,e⟩:=hp.slice;refine⟨g,cap,p,a,rfl,(gE h3).1,?_,by rw[<-e];exact hp⟩;exact anj
def Px(n:Nat)(done:Nat->Bool)(types:List Nd):Prop:=∀j,j<n->done j=true->(types[j]?.getD default).ok/\(types[j]?.getD default).QS
theorem Tx{done:Nat->Bool}{types ts:List Nd}{l:List Nat}(h:Px n done types)(hlen:types.length=n)(e:l.Nodup)(c:ts.length=l.length)(f:∀t∈ts,Read t/\t.one.nr):Px n (λi=>done i||l.contains i) (k9 types l ts):=by
 intro j g a;by_cases b:j∈l
 ·rw[H_ l types ts j e b (by omega) c];have d:l.idxOf j<ts.length:=by rw[c];exact List.idxOf_lt_length_iff.2 b
  rw[ae d];obtain⟨r,k⟩:=f _ (aR d);exact⟨r.ok,XU r k⟩
 ·rw[tq _ _ _ _ b];simp only[b7,bh]at a;rcases a with a|a
  ·exact h j g a
  ·exact ay a b
theorem MF(types ts:List Nd)(l:List Nat)(a:j<l.length)(b:ts.length=l.length):k9 types (l.drop j) (ts.drop j)=k9 (types.set (l[j]?.getD 0) ((Fo.of ts).at j)) (l.drop (j+1)) (ts.drop (j+1)):=by
 rw[bI a,bI (show j<ts.length by omega)];show k9 (types.set l[j] (ts[j])) _ _=_;rw[ac5,ae a,ae (show j<ts.length by omega)];rfl
theorem AA(hm:iy m=true)(hL:Fi m=true)(mv:Value)(w:World)(B:Nat)(hv:jM w B mv m)(hB:B<=w.heap.size):
 Calls Tryz.prog 121 #[mv] w (afx w (vC true m)):=by
 have HV:=hI hv;obtain⟨dv,cv,fv,rv,rfl,K,hc,c,z⟩:=hv;obtain⟨da,dc,rfl⟩:=K.slice;obtain⟨ca,cc,rfl⟩:=hc.slice;obtain⟨fa,fc,rfl⟩:=c.slice;obtain⟨ra,rc,rfl⟩:=z.slice;have Ii:=Fv hm;obtain⟨i0,hi,Y,y,C⟩:=info_parts Tryz.QH;obtain⟨w1,u,G,I⟩:=CD w (.cells #[.slice da m.bH.length dc,.slice ca m.prog.sig.cons.length cc,.slice fa m.prog.sig.bj.length fc,.slice ra m.prog.rules.length rc] 50);obtain⟨D,kV,jN,Co⟩:=h_4 hm G I hB;have HPG:Hd (I0 w1 w.heap.size (.agg #[.slice ca m.prog.sig.cons.length cc,.slice fa m.prog.sig.bj.length fc,.slice ra m.prog.rules.length rc]) m.prog):=hI ⟨_,_,_,rfl,(hc.mono hB).below G lR,(c.mono hB).below G lR,(z.mono hB).below G lR⟩;obtain⟨R,r⟩:=xE (vC true m);rw[<-r];have Ip:Hd (OM true m (eA m.prog) (List.replicate m.prog.sig.bj.length default)=R):=hI r.symm;clear r;clear K hc c z hm G I hB
 go_enter Tryz.func121,Tryz.ntmps121
 go_upto_region 1 with fail
 rw[<-u];have I:=fu jN.o;have T:=af I;clear u
 go_wp2_with (at_make;refine wpList_make_full _ rfl _ _ 24 rfl 0 26 i0 (.agg #[.int .i64 0,.int .i64 0,.slice none 0 0]) 3 Tryz.underlying24 hi Y y .i64 .i64 _ _ m.prog.sig.bj.length rfl rfl rfl rfl ?c1 ?c2 ?c3 ?_)
 case c1=>rw[C];omega
 case c2=>unfold maxLen;omega
 case c3=>exact aw _
 intro w2 J G;have r:Below w1.heap.size w1 w2:=⟨G.os,G.tape,G.output,G.size,λq a=>G.block q a (by simp)⟩;have Z:sg w2 w1.heap.size (List.replicate m.prog.sig.bj.length default) (List.replicate m.prog.sig.bj.length (.slice none 0 0)):=by
  refine⟨?_,by simp,λi hi=> ?_⟩
  ·rcases J.2 with⟨e,_⟩|⟨g,cap,cur,e,_,hg,H,U,n,s⟩
   ·cases e
   ·cases e;rw[hg,<-Pw _ Ii];have:cur.toList=(madeCells #[.int .i64 0,.int .i64 0,.slice none 0 0] (m.prog.sig.bj.length*3)).toList:=by
     have u:=s;rw[List.take_of_length_le (by rw[Array.length_toList,n];exact lR)]at u;exact u
    rw[<-this]
  ·rw[cM]at hi;rw[List.getElem?_replicate,aq hi,List.getElem?_replicate,aq hi];exact iJ.nil _ _
 have d:=cY r jN.o;have u:=hI (ag kV.o r lR);have n:=hI (yO (ec D.o).2.1 (.agg #[.slice ca m.prog.sig.cons.length cc,.slice fa m.prog.sig.bj.length fc,.slice ra m.prog.rules.length rc]) w2 w.heap.size (by
  obtain⟨_,_,_,e,q1,q2,s⟩:=HPG.o;exact⟨_,_,_,e,q1.below r kV.o.size,q2.below r kV.o.size,s.below r kV.o.size⟩) u.o.size)
 have s:=hI Z;have Dr:=hI d;have y1:=eY d;have y2:=fu d;have y3:=xk d;have zy:=af y1;clear J G r Z d I T hi Y y C
 go_wp2_with fail
 refine n.o.mono ?_;rintro e w3 ⟨gv,base,vals,rfl,r,G⟩;have k_:(eA m.prog).length<=8:=ai (rh _ _) Ii;obtain⟨ga,gc,rfl⟩:=cr r.own;obtain⟨L,akQ,fT,LC,AN⟩:=h_5 (s.o.below G) (bQ Dr.o G zy) (ag u.o G lR) r k_;obtain⟨tb,Y⟩:=xE w1.heap.size;rw[<-Y]at L |-;have S_:Hd (w.heap.size<tb):=hI (by rw[Y];exact(gE jN.o).1);have X9:Hd (tP (fg m.prog) m.prog.sig.bj.length (λ_=>false) (eA m.prog)):=hI (yt (ec D.o).2.1);have M:Hd (∀l∈eA m.prog,l.length<=m.prog.sig.bj.length):=hI (tE _ _);generalize eA m.prog=gs at LC AN Ip X9 M k_ |-;clear r G s Dr u n y1 y2 y3 zy Y;go_wp2
 go_loopw [22] (λi wr=>∃(k:Nat) (done:Nat->Bool) (types:List Nd) (ps:List Value),k<=gs.length/\i=.int .i64 k/\types.length=m.prog.sig.bj.length/\Px m.prog.sig.bj.length done types/\tP (fg m.prog) m.prog.sig.bj.length done (gs.drop k)/\OM true m (gs.drop k) types=R/\
  sg wr tb types ps/\jR base wr (.slice ga gs.length gc) gs vals/\Below w.heap.size w wr/\wr.heap[w.heap.size]? =some (.cells #[.slice da m.bH.length dc,.slice ca m.prog.sig.cons.length cc,.slice fa m.prog.sig.bj.length fc,.slice ra m.prog.rules.length rc] 50 (0,0))) (λi _=>gs.length-(intOf i).toNat)
 case atStart=>exact⟨0,λ_=>false,_,_,aw _,rfl,by simp,λj _ h=>by(cases h),by rw[List.drop_zero];exact X9.o,by rw[List.drop_zero];exact Ip.o,L.o,LC.o,fT.o,akQ.o⟩
 case round=>
  obtain⟨k,done,types,ps,hk,rfl,Nc,s,CP,N,n,v,E,d⟩:=hrel;obtain⟨wo,E8⟩:=xE wr;subst E8;by_cases O:k<gs.length
  ·obtain⟨l,Y⟩:=xE (AP gs k);have hle:l=gs[k]:=by rw[Y];unfold AP;rw[ae O];rfl
   have I:gs.drop k=l::gs.drop (k+1):=by rw[bI O,hle]
   have A:l.length<=m.prog.sig.bj.length:=M.o l (by rw[hle];exact aR _);obtain⟨b,cap,p,pc,yZ,fF,d0,u⟩:=v.cell O;rw[<-Y]at d0 u;cases yZ;have J:=u.ints;have HIT:=hI u;rw[I]at CP N;cases CP with
   |cons y eC Z H T=>
   have zd:=af d0;have om:(k:Int)<(gs.length:Int):=by omega
   have y0:=cZ d;have y1:=eY d;have y2:=fu d;have y3:=xk d;have zy:=af y0;have C:=n.aiZ (by omega);rw[Nc]at C;have fw:=hI (tw (cX l) ((HV.o.below E Co.o).mono (ai Co.o E.size)) C lR (BD D.o));have G:∀f∈l,∀j,j<m.prog.sig.bj.length->fg m.prog f j=true->j∈l\/((types[j]?.getD default).ok/\(types[j]?.getD default).QS):=λf c j F z=>by
    rcases H f c j F z with h|h
    ·exact .inr (s j F h)
    ·exact .inl h
   have r:CC (kn m types (cX l)) m (cX l):=QN D.o y λf c j F z=>(G f c j F z).imp id λh=>h.1;obtain⟨P,akR,HN,yx,ai4,HDO,Q,S,U,EJ,HGW,ir⟩:=h_12 r G y Z T s Nc A N n v E;obtain⟨Dr,Jn,dL⟩:=h_3 d J O;clear r G H y Z T s Nc N n v E d J u C I hle Y eC O A
   go_wp2_with fail
   refine fw.o.mono ?_;rintro e w4 ⟨X,rfl,Z,u,G,y,hle,J,Y⟩;have T:Ds X:=Pp (by rw[G];exact D.o) (by rw[y,G];exact Q.o);have hg:CC X.C X.m X.l:=by show CC (kn X.m X.types X.l) X.m X.l;rw[G,y,hle];exact P.o
   have V:yM X:=It (by rw[G];exact D.o) (by rw[G];exact hL) hle (by rw[G,y];exact akR.o);have C:∀f∈X.l,0<=f/\f.toNat<X.m.prog.sig.bj.length:=by
    rw[hle,G];intro f c;obtain⟨x,r,rfl⟩:=ni c;have:=(yx.o x r).1;exact⟨by omega,by omega⟩
   have W:X.l.length<=1000:=by rw[hle,eP];have:=S.o;omega
   have I:Ints w4 X.B (.slice p l.length pc) X.l:=by rw[u,hle];exact Jn.o.below Y lR
   have r:=XQ T hg V C W J I;rw[show oe true X.m X.types X.l=oe true m types (cX l)by rw[G,y,hle]]at r;have iK:=hI r;have No:Hd (∀w',X.Kp w4 w'->Below wo.heap.size wo w'):=hI λw' hk=>Y.trans (J.low hk (by rw[Z];exact lR));have oI:=hI Y;have H:Hd ((match oe true m types (cX l)with| .ok ts=>OM true m (gs.drop (k+1)) (k9 types l ts)| .rp=>.rp l| .px=>.px l)=R):=U;clear T hg V C W I r J Y Z u G y hle U;cases iH:oe true m types (cX l)with
   |rp=>
    rw[iH]at iK H;obtain rfl:Um.rp l=R:=H.o;exact anh
   |px=>
    rw[iH]at iK H;obtain rfl:Um.px l=R:=H.o;exact anh
   |ok ts=>
    obtain⟨g1,g2⟩:=L_ P.o iH;rw[eP]at g1;rw[iH]at iK H;have T:=hI g1;have HG2:=hI g2;clear iH g1 g2
    go_wp2_with fail
    refine iK.o.mono ?_;rintro e w5 ⟨ju,kv,rfl,G,u⟩;obtain⟨ka,kc,rfl⟩:=G.slice;rw[Fo.p7,T.o]at G |-;have r:=No.o w5 ju;obtain⟨jP,Gk,HKI,U,akS⟩:=h_5 r G u (EJ.o.below r) (HIT.o.keep (lT.cB r));have T8:Hd (tb<w4.heap.size):=hI (aC EJ.o.lt oI.o.size);have A:=S.o;clear ju G u r d0 zd y0 y1 y2 y3 zy;go_wp2
    go_loopw [40] (λi wr=>∃(j:Nat) (u:List Nd) (V:List Value),j<=l.length/\i=.int .i64 j/\u.length=m.prog.sig.bj.length/\k9 u (l.drop j) (ts.drop j)=k9 types l ts/\sg wr tb u V/\vo tb w5 wr) (λi _=>l.length-(intOf i).toNat)
    case atStart=>exact⟨0,types,ps,aw _,rfl,Q.o,by rw[List.drop_zero,List.drop_zero],U.o,⟨rfl,rfl,rfl,lR,λ_ _ _ h=>h⟩⟩
    case round=>
     obtain⟨j,u,V,F,rfl,I,W,n,r⟩:=hrel;have y:=U.o.fW;by_cases J:j<l.length
     ·have xh:lT w5 wr:=λq cur f a=>r.same _ _ (λe=>by
       subst e;rw[y]at a;simp only[aL,Obj.cells.injEq]at a;exact ay a.2.1 (by decide)) a
      obtain⟨lb,lo,al_,hle,hlb,l0⟩:=(akS.o.keep xh).cell J;cases hle;have Y:gN (nO 26 w4.heap.size) w5 wr:=λq o a ho=>r.same _ _ (λe=>by have:=T8.o;have:=a.1;omega) ho;have Cf:=Gk.o.keep Y;obtain⟨fb,fo,NT,fp,Zg,Du,uF,f0,f1,f2,J8⟩:=Cf.cell (k:=j) (by rw[Fo.p7,T.o];exact J);rw[Fo.p7,T.o]at Du;cases Du;have Z:=J8.mono (S':=λq _=>q≠tb) λq o _ a=>by have:=T8.o;have:=a.1;omega
      obtain⟨f,c⟩:=xE (l[j]?.getD 0);have sW:f∈l:=by rw[c,ae J];exact aR _
      have j6:f<m.prog.sig.bj.length:=(yx.o f sW).1;have Jm:=W;rw[MF u ts l J T.o,<-c]at Jm;rw[<-c]at l0;have ac8:=n.set (i:=f) (by rw[I];exact j6) (t:=(Fo.of ts).at j) Z;have ac9:vo tb w5 (((wr.setCell ⟨tb,f*3,none⟩ (.int .i64 ((Fo.of ts).at j).a)).setCell ⟨tb,f*3+1,none⟩ (.int .i64 ((Fo.of ts).at j).n)).setCell ⟨tb,f*3+2,none⟩ (.slice fp ((Fo.of ts).at j).k.len Zg)):=
       ⟨r.os,r.tape,r.output,by simpa [World.setCell] using r.size,λq o a ho=>(au _ _ _ _ a).trans ((au _ _ _ _ a).trans ((au _ _ _ _ a).trans (r.same q o a ho)))⟩
      obtain⟨HTS,CI,fG,C,nk⟩:=h_5 ac8 ac9 Jm I J;have G:wr.heap[tb]? =some (.cells (eF u V).toArray 26 (0,0)):=n.fW;have zt:tb<wr.heap.size:=n.lt;obtain⟨q0,q1,q2⟩:=FC (i:=f) n.len (by rw[I];exact j6);have t0:wr.cell? ⟨tb,f*3,none⟩=some (.int .i64 (u[f]?.getD default).a):=by rw[cell_of_row _ _ _ _ _ _ G,aF,q0]
      have t1:wr.cell? ⟨tb,f*3+1,none⟩=some (.int .i64 (u[f]?.getD default).n):=by rw[cell_of_row _ _ _ _ _ _ G,aF,q1]
      have t2:wr.cell? ⟨tb,f*3+2,none⟩=some (V[f]?.getD undef):=by rw[cell_of_row _ _ _ _ _ _ G,aF,q2]
      have z0:wr.frozen? ⟨tb,f*3,none⟩=false:=by simp[World.frozen?,G]
      have z1:wr.frozen? ⟨tb,f*3+1,none⟩=false:=by simp[World.frozen?,G]
      have z2:wr.frozen? ⟨tb,f*3+2,none⟩=false:=by simp[World.frozen?,G]
      have KZ:(j:Int)<(l.length:Int):=by omega
      have hfI:(f:Int)<(m.prog.sig.bj.length:Int):=by omega
      clear W Jm n r xh Y Cf J8 Z ac8 ac9 c sW I J G y q0 q1 q2;go_wp2
      go_roundw
      case rel=>exact⟨j+1,_,_,nk.o,by go_num,by rw[List.length_set];exact C.o,fG.o,HTS.o,CI.o⟩
      case measure=>have:=nk.o;simp[intOf];omega
     ·obtain rfl:j=l.length:=by omega
      have Je:k9 u (l.drop l.length) (ts.drop l.length)=u:=by rw[List.drop_length];rfl
      rw[Je]at W;have G:=(HGW.o.below jP.o).ai0 y r;have Om:Below w.heap.size w wr:=(ag ir.o jP.o lR).trans (r.below (bt S_.o) (ai ir.o.size jP.o.size));have Y:=r.same _ _ (show w.heap.size≠tb by have:=S_.o;omega) (cY jP.o Dr.o);have CY:=Tx HDO.o Q.o HN.o T.o λt ht=>⟨HG2.o t ht,HKI.o t ht⟩;obtain⟨HA,HB,Z,HD2,fG,akT,C⟩:=h_7 G Om Y CY W n I;clear Je W n r I G Om Y CY y;go_wp2
      go_roundw
      case rel=>exact⟨k+1,_,u,V,dL.o,by go_num,C.o,by rw[fG.o];exact HD2.o,ai4.o,by rw[fG.o];exact H.o,akT.o,HA.o,HB.o,Z.o⟩
      case measure=>have:=dL.o;simp[intOf];omega
  ·obtain rfl:k=gs.length:=by omega
   rw[List.drop_length]at N CP;obtain rfl:Um.ok types=R:=N;cases CP with
   |nil K=>
   have G:Hd (∀j,j<types.length->(types[j]?.getD default).ok/\(types[j]?.getD default).QS):=hI λj F=>s j (by omega) (K j (by omega));obtain⟨r,kG,Q⟩:=h_3 (n.aiZ (by omega)) E Nc;clear s K n v E d;go_wp2
   go_ret3
   exact⟨kG.o,.slice (some ⟨tb,0,none⟩) m.prog.sig.bj.length m.prog.sig.bj.length,rfl,by rw[<-Q.o];exact r.o,G.o⟩
theorem MG(p:Pg):(eA p).length<=p.sig.bj.length:=rh _ _
def Iy(p:Pg)(w:World)(b:Bool)(e:Ending)(w':World):Prop:=Below w.heap.size w w'/\match b with
 |true=>∃v',e=.returned (.tuple #[v',.int .i64 0])/\mA w' w'.heap.size v' ((eA p).map cX)
 |false=>e=.returned (.tuple #[.slice none 0 0,.int .i64 2])
theorem MH(p:Pg)(v:Value)(w:World)(B:Nat)(t:I0 w B v p)(hB:B<=w.heap.size)(i:∀r∈p.rules,nh r):
 Calls Tryz.prog 23 #[v] w (Iy p w (ez p)):=by
 obtain⟨cv,fv,rv,rfl,hc,d,f⟩:=t;obtain⟨j,cc,rfl⟩:=hc.slice;obtain⟨k,l,rfl⟩:=d.slice;obtain⟨m,rc,rfl⟩:=f.slice;obtain⟨a,n⟩:=qS w (.cells #[.slice j p.sig.cons.length cc,.slice k p.sig.bj.length l,.slice m p.rules.length rc] 42);have b:Hd (∀V,Below w.heap.size w V->I0 V w.heap.size (.agg #[.slice j p.sig.cons.length cc,.slice k p.sig.bj.length l,.slice m p.rules.length rc]) p):=hI λV g=>⟨_,_,_,rfl,(hc.mono hB).below g lR,(d.mono hB).below g lR,(f.mono hB).below g lR⟩;obtain⟨c,o,u⟩:=h_3 (Hw p _ _ w.heap.size (b.o _ a) a.size i) a n;unfold aH at c;clear hc d f a n hB i;cases hp:ez p with
 |false=>
  rw[hp]at c;clear hp
  go_enter Tryz.func23,Tryz.ntmps23
  go_wp2_with fail
  refine c.o.mono ?_;rintro e n ⟨rfl,a⟩;have f:=hI (ag o.o a lR);clear a;go_wp2
  go_ret2
  exact⟨f.o,rfl⟩
 |true=>
  rw[hp]at c;have g:=MG p;have q:p.sig.bj.length<=8:=by
   have d:=hp;unfold ez fA at d;simp only[ak]at d;exact bu d.1.1.1.1.1.2
  have x:=hI (ai g q);have y:=hI hp;clear hp g q
  go_enter Tryz.func23,Tryz.ntmps23
  go_wp2_with fail
  refine c.o.mono ?_;rintro e n ⟨rfl,a⟩;have d:=cY a u.o;have q:=cZ d;have z:=eY d;have A:=fu d;have C:=af q;have g:=hI (ag o.o a lR);have D:=hI (yO y.o _ n w.heap.size (b.o _ g.o) g.o.size);clear a d
  go_wp2_with fail
  refine D.o.mono ?_;rintro e F ⟨gv,base,vals,rfl,d,s⟩;have E:=hI (d.at (ai x.o (by decide)));have f:=hI (ag g.o s lR);clear d s q z A C;go_wp2
  go_ret2
  exact⟨f.o,gv,rfl,E.o⟩
theorem tF:∀ds:List fV,(fB ds).length=uo ds
 |[]=>rfl
 |d::ds=>by
  show(tU d++fB ds).length=_;rw[az,mU,tF ds];unfold uo;simp
theorem tG(l:List sr):(dx l).length=l.length:=by unfold dx;simp
theorem Tz(h:uo m.bH≠m.prog.sig.cons.length):iy m=false:=by
 unfold iy;have:decide (fB m.bH=dx m.prog.sig.cons)=false:=aB λe=>h (by rw[<-tF,e,tG]);rw[this,Bool.and_false]
theorem AB(ds:List fV)(dv:Value)(w:World)(B:Nat)(a:eB w B dv ds)(hB:B<=w.heap.size)(f:ds.length<=8):
 aH Tryz.prog 177 #[dv] w (.int .i64 (xy ds ds.length:Nat)):=by
 have d:=a.small;have HD:=hI (a.mono hB);have wQ:Hd (∀k,k<=ds.length->xy ds k<=k*140737488355328):=hI λk hk=>NY (λj e=>by
  obtain⟨b,off,cap,p,pc,he,fF,d0,d1,d2,ja,uT⟩:=iR HD.o bR e;exact ja.small) hk
 obtain⟨g,dc,rfl⟩:=a.slice;clear a;unfold aH
 go_enter Tryz.func177,Tryz.ntmps177
 go_wp2
 go_loopw [3,8] (λn i wr=>∃k:Nat,k<=ds.length/\i=.int .i64 k/\n=.int .i64 (xy ds k:Nat)/\Below w.heap.size w wr) (λ_ i _=>ds.length-(intOf i).toNat)
 case atStart=>exact⟨0,aw _,rfl,by rw[zU];rfl,bR⟩
 case round=>
  exact amG
theorem MI(m:Md)(P:Value)(w:World)(B:Nat)(hm:jM w B P m)(hB:B<=w.heap.size)(Q:∀r∈m.prog.rules,nh r)(S:m.bH.length<=8):
 aH Tryz.prog 131 #[P] w (.bool (iy m)):=by
 obtain⟨dv,cv,fv,rv,rfl,a,hc,g,o⟩:=hm;have RA:=a.small;have kH:=hc.small;obtain⟨y,dc,rfl⟩:=a.slice;obtain⟨z,cc,rfl⟩:=hc.slice;obtain⟨A,C,rfl⟩:=g.slice;obtain⟨D,rc,rfl⟩:=o.slice;obtain⟨w1,f,j,e⟩:=CD w (.cells #[.slice y m.bH.length dc,.slice z m.prog.sig.cons.length cc,.slice A m.prog.sig.bj.length C,.slice D m.prog.rules.length rc] 50);have G:∀V,Below w1.heap.size w1 V->Below w.heap.size w V:=λV t=>ag j t lR;have HD:Hd (∀d os,aH Tryz.prog 129 #[.slice y m.bH.length dc] (Go.Sort.grow (redrawn w1 d) os) (.bool (dg m.bH))):=hI λd os=>
  yN _ _ _ w.heap.size ((a.mono hB).below (G _ (below_regrown w1 d os)) lR) (G _ (below_regrown w1 d os)).size
 have HP:Hd (∀d os,aH Tryz.prog 94 #[.agg #[.slice z m.prog.sig.cons.length cc,.slice A m.prog.sig.bj.length C,.slice D m.prog.rules.length rc]] (Go.Sort.grow (redrawn w1 d) os) (.bool (ez m.prog))):=hI λd os=>
  Hw _ _ _ w.heap.size ⟨_,_,_,rfl,(hc.mono hB).below (G _ (below_regrown w1 d os)) lR,(g.mono hB).below (G _ (below_regrown w1 d os)) lR,(o.mono hB).below (G _ (below_regrown w1 d os)) lR⟩ (G _ (below_regrown w1 d os)).size Q
 have HC:Hd (∀d os,aH Tryz.prog 177 #[.slice y m.bH.length dc] (Go.Sort.grow (redrawn w1 d) os) (.int .i64 ((uo m.bH:Nat):Int))):=hI λd os=>by
  rw[<-DB];exact AB _ _ _ w.heap.size ((a.mono hB).below (G _ (below_regrown w1 d os)) lR) (G _ (below_regrown w1 d os)).size S
 obtain⟨F,WU,kV,jN⟩:=h_4 (a.mono hB) (hc.mono hB) j e;have x0:=cZ e;have x1:=eY e;have x2:=fu e;have x3:=xk e;have q:=af x0;have c:Hd (iy m=(dg m.bH&&ez m.prog&&decide (fB m.bH=dx m.prog.sig.cons))):=hI rfl;have T:Hd (uo m.bH≠m.prog.sig.cons.length->iy m=false):=hI Tz;generalize iy m=R at c T |-;have BV:=hI f;clear a hc g o j e G Q S hB f;unfold aH;cases c1:dg m.bH with
 |false=>
  rw[c1]at HD c;obtain rfl:R=false:=c.o;clear c1;exact amF
 |true=>
  rw[c1,aU]at c;rw[c1]at HD;clear c1;cases c2:ez m.prog with
  |false=>
   rw[c2]at HP c;obtain rfl:R=false:=c.o;clear c2;exact amF
  |true=>
   rw[c2,aU]at c;rw[c2]at HP;clear c2;by_cases c3:uo m.bH=m.prog.sig.cons.length
   ·have g3:(((uo m.bH:Nat):Int) != ((m.prog.sig.cons.length:Nat):Int))=false:=by rw[c3];simp
    have U:=hI c3;clear c3
    go_enter Tryz.func131,Tryz.ntmps131
    go_upto_region 1 with fail
    rw[<-BV.o]
    go_wp2_with fail
    refine aM (by kernel_rfl) (by kernel_rfl) ?_
    repeat go_big_quiet_step ((first|(with_reducible exact aH.quiet (HD.o _ _))|(with_reducible exact aH.quiet (HP.o _ _))|(with_reducible exact aH.quiet (HC.o _ _))))
    refine wpQuiet_nil ?_;intro V dU;have kG:=hI (ag kV.o dU lR);have W:=hI (bQ jN.o dU q);clear dU x0 x1 x2 x3 q;have x0:=cZ W.o;have q:=af x0;go_wp2;clear x0 q
    go_loopw [3,32] (λnv G wr=>∃i n:Nat,i<=m.bH.length/\G=.int .i64 i/\nv=.int .i64 n/\n<=m.prog.sig.cons.length/\fB (m.bH.take i)=dx (m.prog.sig.cons.take n)/\Below w.heap.size w wr/\wr.heap[w.heap.size]? =some (.cells #[.slice y m.bH.length dc,.slice z m.prog.sig.cons.length cc,.slice A m.prog.sig.bj.length C,.slice D m.prog.rules.length rc] 50 (0,0))) (λ_ G _=>m.bH.length-(intOf G).toNat)
    case atStart=>exact⟨0,0,aw _,rfl,rfl,aw _,rfl,kG.o,W.o⟩
    case round=>
     obtain⟨i,n,hi,rfl,rfl,E,hle,e,l⟩:=hrel;obtain⟨X,E8⟩:=xE wr;subst E8;by_cases H:i<m.bH.length
     ·obtain⟨b,off,cap,p,I,yZ,fF,d0,d1,d2,G,J⟩:=iR F.o e H;cases yZ;obtain⟨d,a⟩:=xE (b8 m.bH i);rw[<-a]at d0 d1 d2 G;have L:=af d0;have hiI:(i:Int)<(m.bH.length:Int):=by omega
      obtain⟨j,t⟩:=qS X (.cells #[.string d.name,.int .i64 d.params,.slice p d.cons.length I] 186);obtain⟨u,v,g,x,s,f⟩:=h_6 (ag e j lR) t (cY j l) (G.below j e.size) H a;have wQ:Hd (nJ m.bH i 0=dx (m.prog.sig.cons.take n)):=hI (by rw[EA];exact hle);have aht:=G.small;have HN:=hI E;clear e l G j t hle H a J E
      go_upto_region 7 with fail
      refine eR (λY=>Below w.heap.size w Y/\Y.heap[w.heap.size]? =some (.cells #[.slice (some ⟨b,off,none⟩) m.bH.length dc,.slice z m.prog.sig.cons.length cc,.slice A m.prog.sig.bj.length C,.slice D m.prog.rules.length rc] 50 (0,0))/\lS Y w.heap.size (.slice p d.cons.length I) d.cons/\Y.heap[X.heap.size]? =some (.cells #[.string d.name,.int .i64 d.params,.slice p d.cons.length I] 186 (0,0))) ⟨u.o,g.o,x.o,v.o⟩ ?_;clear u g x v d0 d1 d2 L;rintro Y ⟨e,l,G,hy⟩;have j:=fu hy;have M:=af j;obtain⟨J,t,K⟩:=h_3 e l G;clear e l G hy;go_wp2;clear j M
      go_loopw [3,39] (λnv kv wr=>∃k n:Nat,k<=d.cons.length/\kv=.int .i64 k/\nv=.int .i64 n/\n<=m.prog.sig.cons.length/\nJ m.bH i k=dx (m.prog.sig.cons.take n)/\wr=Y) (λ_ kv _=>d.cons.length-(intOf kv).toNat)
      case atStart=>exact⟨0,n,aw _,rfl,rfl,HN.o,wQ.o,rfl⟩
      case round=>
       obtain⟨k,g,hk,rfl,rfl,L,G,j⟩:=hrel;rw[j];clear j;by_cases Z:k<d.cons.length
       ·obtain⟨fb,fo,NT,fp,Zg,Du,uF,f0,Ka⟩:=mq K.o bR Z;cases Du;have u:k<(b8 m.bH i).cons.length:=by rw[<-f.o];exact Z
        have M:g<m.prog.sig.cons.length:=by
         obtain⟨rest,o⟩:=EB s.o u;have N:=congrArg List.length o;rw[tF,U.o,G,az,tG,List.length_take,aD]at N;omega
        obtain⟨nb,no,ahk,eC,qM,_,m1,_⟩:=fJ WU.o J.o M;cases eC;have x1:=eY t.o;have q:=af x1;have zf:=af f0;have zm:=af m1;have om:(k:Int)<(d.cons.length:Int):=by omega
        have hnI:(g:Int)<(m.prog.sig.cons.length:Int):=by omega
        have O:=hI M;by_cases he:(bS m.prog.sig.cons g).args=((dD d.cons k).len:Int)
        ·have v:nJ m.bH i (k+1)=dx (m.prog.sig.cons.take (g+1)):=by
          rw[yo u,Ha M,G,<-f.o,he]
         have j:=hI v;rw[he]at m1;clear v G Ka he u;go_wp2
         go_roundw
         case rel=>exact⟨k+1,g+1,by omega,by go_num,by go_num,O.o,j.o,trivial⟩
         case measure=>simp[intOf];omega
        ·have oV:=Ji s.o u G L (λ_=>by rw[<-f.o];exact he);have x:R=false:=by rw[c.o,aB oV]
         subst x;have g5:(((dD d.cons k).len:Int) != (bS m.prog.sig.cons g).args)=true:=by rw[FD];exact λh=>he h.symm
         clear oV G Ka he u;go_wp2;go_ret;exact⟨rfl,J.o⟩
       ·obtain rfl:k=d.cons.length:=by omega
        have v:fB (m.bH.take (i+1))=dx (m.prog.sig.cons.take g):=by rw[<-yp s.o,<-f.o];exact G
        have j:=hI v;have u:=hI L;clear v G L;go_wp2
        go_roundw
        case rel=>exact⟨i+1,g,s.o,by go_num,rfl,u.o,j.o,J.o,t.o⟩
        case measure=>have:=s.o;simp[intOf];omega
     ·obtain rfl:i=m.bH.length:=by omega
      rw[bE]at hle;have hy:=Lg hle E;have G:n=m.prog.sig.cons.length:=by
       have N:=congrArg List.length hle;rw[tF,tG,List.length_take,U.o]at N;omega
      have x:R=true:=by rw[c.o,hy,G];simp
      subst x;have j:=hI e;clear hle hy G e l E;go_wp2;go_ret;exact⟨rfl,j.o⟩
   ·have x:=T.o c3;subst x;have g3:(((uo m.bH:Nat):Int) != ((m.prog.sig.cons.length:Nat):Int))=true:=by rw[FD];omega
    clear c3;exact amF
theorem lH(m:Md)(d:Value)(w:World)(B:Nat)(hm:jM w B d m)(hB:B<=w.heap.size)(f:∀r∈m.prog.rules,nh r)(g:m.bH.length<=8):
 aH Tryz.prog 54 #[d] w (.int .i64 (if iy m then 0 else 2)):=by
 have l:=hI hm;obtain⟨dv,cv,fv,rv,rfl,i,hc,j,k⟩:=hm;obtain⟨n,dc,rfl⟩:=i.slice;obtain⟨o,cc,rfl⟩:=hc.slice;obtain⟨p,q,rfl⟩:=j.slice;obtain⟨s,rc,rfl⟩:=k.slice;have a:=Below.cA w (.cells #[.slice n m.bH.length dc,.slice o m.prog.sig.cons.length cc,.slice p m.prog.sig.bj.length q,.slice s m.prog.rules.length rc] 50);have c:=hI (MI m _ _ w.heap.size ((l.o.mono hB).below a lR) a.size f g);have t:=hI a;unfold aH at c;generalize iy m=b at c |-;clear i hc j k a f g hB;cases b
 all_goals
  simp only[bF,if_false,if_true];unfold aH
  go_enter Tryz.func54,Tryz.ntmps54
  go_wp2_with fail
  refine c.o.mono ?_;rintro e i ⟨rfl,a⟩;have j:=hI (ag t.o a lR);clear a
  go_wp2_with fail
  refine(zZ _ i).mono ?_;rintro e a ⟨rfl,Us⟩;rw[Us];clear Us;go_wp2;go_ret;exact⟨rfl,j.o⟩
def X_(w:World)(b:Bool)(r:Um)(e:Ending)(w':World):Prop:=Below w.heap.size w w'/\match b,r with
 |false,_=>e=.returned (.tuple #[.slice none 0 0,.int .i64 2])
 |true,.ok types=>∃tv,e=.returned (.tuple #[tv,.int .i64 0])/\dr w' w'.heap.size tv (Fo.of types)
 |true,.rp _=>e=.returned (.tuple #[.slice none 0 0,.int .i64 7])
 |true,.px _=>e=.returned (.tuple #[.slice none 0 0,.int .i64 3])
theorem Iz(m:Md)(d:Value)(w:World)(B:Nat)(hm:jM w B d m)(hB:B<=w.heap.size)(f:∀r∈m.prog.rules,nh r)(g:m.bH.length<=8)(i:iy m=true){types:List Nd}(p:vC true m=.ok types)(q:Fi m=true):
 Calls Tryz.prog 40 #[d] w (X_ w true (.ok types)):=by
 have j:=hI hm;obtain⟨dv,cv,fv,rv,rfl,k,hc,l,n⟩:=hm;obtain⟨s,dc,rfl⟩:=k.slice;obtain⟨t,cc,rfl⟩:=hc.slice;obtain⟨u,v,rfl⟩:=l.slice;obtain⟨x,rc,rfl⟩:=n.slice;obtain⟨a,o⟩:=qS w (.cells #[.slice s m.bH.length dc,.slice t m.prog.sig.cons.length cc,.slice u m.prog.sig.bj.length v,.slice x m.prog.rules.length rc] 50);obtain⟨b,y,z⟩:=h_3 (lH m _ _ w.heap.size ((j.o.mono hB).below a lR) a.size f g) a o;have A:Hd (∀V,Below w.heap.size w V->jM V w.heap.size _ m):=hI λV c=>(j.o.mono hB).below c lR;unfold aH at b;have C:Hd (∀V,Below w.heap.size w V->Calls Tryz.prog 121 #[_] V (afx V (.ok types))):=hI λV c=>by rw[<-p];exact AA i q _ V w.heap.size (A.o V c) c.size
 rw[i]at b;clear k hc l n a o f g hB;simp only[if_true]at b
 go_enter Tryz.func40,Tryz.ntmps40
 go_wp2_with fail
 refine b.o.mono ?_;rintro e n ⟨rfl,c⟩;have a:=cY c z.o;have k:=cZ a;have o:=eY a;have D:=fu a;have E:=xk a;have F:=af k;have l:=hI (ag y.o c lR);have G:=hI (C.o n l.o);clear c a
 go_wp2_with fail
 refine G.o.mono ?_;rintro e J ⟨a,tv,rfl,c,_⟩;have H:=hI (ag l.o a lR);have I:=hI c;clear a c k o D E F;go_wp2
 go_ret2
 exact⟨H.o,tv,rfl,I.o⟩
end
section
open Go Go.RowKit
attribute [local go_sem] aT cW df nV uV
def Fo.arr:Fo->Nat
 | .cons _ _ _ (.cons a _ k _)=>if a=3 then 1+k.arr else 0
 |_=>0
def Nd.arr(t:Nd):Nat:=if t.a=3 then 1+t.k.arr else 0
theorem afz{t:Nd}(h:t.a=3)(b:t.k.len=2):t.arr=1+(t.k.at 1).arr:=by
 obtain⟨a,n,k⟩:=t;unfold Nd.arr;rw[aq h]
 congr 1
 cases k with
 |nil=>cases b
 |cons c d e r1=>
  cases r1 with
  |nil=>cases b
  |cons a2 f g r2=>rfl
theorem Ya{p:Int->Int->Nat->Bool}{t:Nd}{i:Nat}(h:ew p t=true)(hi:i<t.k.len):ew p (t.k.at i)=true:=by
 unfold ew at h;rw[ak]at h;cases hc:ew p (t.k.at i)with
 |true=>rfl
 |false=>rw[Jd hi hc]at h;exact ay h.2 (by decide)
theorem Py{ds:List fV}{v:Int}{t:Nd}(h:ew (dA ds v) t=true)(a:t.a=3):t.k.len=2:=by
 unfold ew at h;rw[ak]at h;have:=h.1;unfold dA at this;rw[a]at this;simp at this;exact this.2
theorem Pz(ds:List fV)(t:Nd)(tv:Value)(w:World)(B:Nat)(J:cV w B tv t)(hB:B<=w.heap.size)(k:dB ds 20 t=true):
 aH Tryz.prog 165 #[tv] w (.int .i64 (t.arr:Nat)):=by
 unfold dB at k;rw[ak]at k;have e:=bu k.1;have f:=k.2;obtain⟨kv,rfl,a⟩:=J;obtain⟨ka,kc,rfl⟩:=a.slice;obtain⟨X,g,d,l⟩:=CD w (.cells #[.int .i64 t.a,.int .i64 t.n,.slice ka t.k.len kc] 26);obtain⟨K,q,L,M,N,O,P⟩:=h_7 (a.below d hB) hB d l f e g;clear a d l f e k g hB;unfold aH
 go_enter Tryz.func165,Tryz.ntmps165
 go_upto_region 1 with fail
 rw[<-P.o]
 go_wp2_with fail
 go_loopw [3] (λi wr=>∃(c:Nat) (u:Nd) (v:Option Addr) (sc:Nat),i=.int .i64 c/\wr.heap[w.heap.size]? =some (.cells #[.int .i64 u.a,.int .i64 u.n,.slice v u.k.len sc] 26 (0,0))/\dr wr B (.slice v u.k.len sc) u.k/\Below w.heap.size w wr/\c+u.arr=t.arr/\c+u.size<=20/\ew (dA ds 20) u=true) (λi _=>20-(intOf i).toNat)
 case atStart=>exact⟨0,t,ka,kc,rfl,M.o,K.o,L.o,by omega,by have:=O.o;omega,N.o⟩
 case round=>
  obtain⟨c,u,v,sc,rfl,e,x,g,l,D,r⟩:=hrel;have b0:=cZ e;have Y:=af b0;by_cases f:u.a=3
  ·have Q:(u.a==3)=true:=by rw[f];rfl
   have E:=Py r f;have R:=afz f E;have a:1<u.k.len:=by omega
   have y:=Fo.eD a;have z:u.size=1+u.k.size:=rfl;have S:(u.k.at 1).size=1+(u.k.at 1).k.size:=rfl;obtain⟨b,off,cap,p,F,he,T,f0,f1,f2,G⟩:=dC x (Below.refl B wr) a;cases he;have Z:=fu e;have b2:=eY e;have g0:∀j,wr.frozen? ⟨w.heap.size,j,none⟩=false:=λj=>by simp[World.frozen?,e]
   have H:=LJ e (.int .i64 (u.k.at 1).a) (.int .i64 (u.k.at 1).n) (.slice p (u.k.at 1).k.len F);have U:(1:Int)<(u.k.len:Int):=by omega
   have A:Hd (B<=w.heap.size/\B<=wr.heap.size/\b<wr.heap.size):=hI ⟨q.o,by have:=q.o;have:=g.size;omega,by have:=q.o;have:=g.size;omega⟩;obtain⟨I,m,s⟩:=h_3 H G g;have d:Hd (c+1+(u.k.at 1).arr=t.arr/\c+1+(u.k.at 1).size<=20/\ew (dA ds 20) (u.k.at 1)=true):=hI ⟨by omega,by omega,Ya r a⟩;have n:c<20:=by omega
   have C:=hI n;have V:(c:Int)<20:=by omega
   obtain⟨W,o⟩:=xE (u.k.at 1);rw[<-o]at f0 f1 f2 I m d;have zf:=A.o.2.2;have eC:¬b=w.heap.size:=by have:=q.o;omega
   clear e x g l D r f E R a y z S G H o T n
   go_wp2_with fail
   obtain⟨a,n⟩:=I.o
   go_roundw
   case rel=>exact⟨c+1,W,p,F,by go_num,n,m.o.below (a.below A.o.1 A.o.2.1) lR,s.o.trans (a.below lR s.o.size),d.o.1,d.o.2.1,d.o.2.2⟩
   case measure=>have:=C.o;simp[intOf];omega
  ·have Q:(u.a==3)=false:=by rw[beq_eq_false_iff_ne];exact f
   have a:u.arr=0:=by unfold Nd.arr;rw[ah f]
   obtain rfl:c=t.arr:=by omega
   have s:=hI g;clear e x g l D r f a;go_wp2;go_ret;exact⟨rfl,s.o⟩
def FE(m:Md)(F:Fo):Bool:=decide (F.len=m.prog.sig.bj.length)&&(List.range F.len).all λi=>dB m.bH 20 (F.at i)&&decide ((bS m.prog.sig.bj i).args<=((F.at i).arr:Int))
theorem MM{F:Fo}(a:k<F.len)(h:dB m.bH 20 (F.at k)=false\/¬(bS m.prog.sig.bj k).args<=((F.at k).arr:Int)):FE m F=false:=by
 cases e:FE m F with
 |false=>rfl
 |true=>
  unfold FE at e;rw[ak,aK]at e;have:=e.2 k (bq.2 a);rw[ak]at this;rcases h with h|h
  ·rw[h]at this;exact ay this.1 (by decide)
  ·exact ay (bu this.2) h
theorem JO(m:Md)(F:Fo)(G tv:Value)(w:World)(B:Nat)(hm:jM w B G m)(n:dr w B tv F)(hB:B<=w.heap.size)(H:dg m.bH=true)(e:FE m F=true):
 aH Tryz.prog 108 #[G,tv] w (.bool true):=by
 obtain⟨dv,cv,fv,rv,rfl,a,hc,c,l⟩:=hm;obtain⟨s,dc,rfl⟩:=a.slice;obtain⟨P,cc,rfl⟩:=hc.slice;obtain⟨Q,R,rfl⟩:=c.slice;obtain⟨S,rc,rfl⟩:=l.slice;obtain⟨ta,tc,rfl⟩:=n.slice;obtain⟨I,T,f,r⟩:=CD w (.cells #[.slice s m.bH.length dc,.slice P m.prog.sig.cons.length cc,.slice Q m.prog.sig.bj.length R,.slice S m.prog.rules.length rc] 50);have c2:=fu r;have q:=af c2;obtain⟨t,U,W,J,X,Z,HD,u⟩:=h_8 (a.mono hB) (c.mono hB) (n.mono hB) f r T H (show F.len<=140737488355328 from n.small);clear a hc c l n f r H hB;unfold aH
 go_enter Tryz.func108,Tryz.ntmps108
 have f:=hI e;have hlen:F.len=m.prog.sig.bj.length:=by
  unfold FE at e;rw[ak]at e;exact bu e.1
 clear e;have K:=hI hlen;have c:((F.len:Int) != (m.prog.sig.bj.length:Int))=false:=by rw[hlen];simp
 clear hlen
 go_wp2_with fail
 clear c c2 q
 go_loopw [17] (λi wr=>∃k:Nat,k<=F.len/\i=.int .i64 k/\Below I.heap.size I wr) (λi _=>F.len-(intOf i).toNat)
 case atStart=>exact⟨0,aw _,rfl,by rw[Z.o];exact bR⟩
 case round=>
  obtain⟨k,L,rfl,o⟩:=hrel;have a:Below w.heap.size w wr:=J.o.trans (o.mono J.o.size);by_cases g:k<F.len
  ·have om:(k:Int)<(F.len:Int):=by omega
   obtain⟨b,off,cap,p,j,he,fF,f0,f1,f2,v⟩:=dC W.o a g;cases he;obtain⟨Y,M,l,q⟩:=CD wr (.cells #[.int .i64 (F.at k).a,.int .i64 (F.at k).n,.slice p (F.at k).k.len j] 26);have c:=ag a l lR;have x:=ag o l lR;have y:Hd (∀d os,aH Tryz.prog 53 #[.slice s m.bH.length dc,.agg #[.int .i64 (F.at k).a,.int .i64 (F.at k).n,.slice p (F.at k).k.len j]] (Go.Sort.grow (redrawn Y d) os) (.int .i64 (if dB m.bH 20 (F.at k)then 0 else 2))):=hI λd os=>by
    have r:=ag c (below_regrown Y d os) lR;have:=pf m.bH (F.at k) (.slice s m.bH.length dc) (.agg #[.int .i64 (F.at k).a,.int .i64 (F.at k).n,.slice p (F.at k).k.len j]) (Go.Sort.grow (redrawn Y d) os) w.heap.size (t.o.below r lR) ⟨_,rfl,(v.below l (by have:=a.size;omega)).below (below_regrown Y d os) (by have:=c.size;omega)⟩ r.size;rw[HD.o,aU]at this;exact this
   have N:Hd (dB m.bH 20 (F.at k)=true->∀d os,aH Tryz.prog 165 #[.agg #[.int .i64 (F.at k).a,.int .i64 (F.at k).n,.slice p (F.at k).k.len j]] (Go.Sort.grow (redrawn Y d) os) (.int .i64 ((F.at k).arr:Nat))):=hI λh d os=>by
    have r:=ag c (below_regrown Y d os) lR;exact Pz m.bH (F.at k) (.agg #[.int .i64 (F.at k).a,.int .i64 (F.at k).n,.slice p (F.at k).k.len j]) (Go.Sort.grow (redrawn Y d) os) w.heap.size ⟨_,rfl,(v.below l (by have:=a.size;omega)).below (below_regrown Y d os) (by have:=c.size;omega)⟩ r.size h
   obtain⟨bf,of,amb,z,A,g0,g1,_⟩:=fJ U.o c (k:=k) (by rw[<-K.o];exact g);cases z;have C:=cY x X.o;have O:=cZ C;have m2:=fu C;have x0:=cZ q;have x1:=eY q;have x2:=fu q;have zm:=af O;have zx:=af x0;have zg:=af g1;have zb:b<wr.heap.size:=by have:=a.size;omega
   have hkf:(k:Int)<(m.prog.sig.bj.length:Int):=by rw[<-K.o];exact om
   obtain⟨HY,D,r⟩:=h_3 M x g;obtain⟨qx,E⟩:=xE wr.heap.size;clear L o a g v l q M c x C fF A g0 E
   go_upto_region 6 with fail
   rw[<-HY.o];cases c:dB m.bH 20 (F.at k)with
   |false=>
    cases f.o.symm.trans (MM r.o (.inl c))
   |true=>
    rw[c]at y;simp only[if_true]at y;have x:=hI (N.o c);by_cases q:(bS m.prog.sig.bj k).args<=((F.at k).arr:Int)
    ·have l:¬((F.at k).arr:Int)<(bS m.prog.sig.bj k).args:=by omega
     clear c q N;refine aM (by kernel_rfl) (by kernel_rfl) ?_
     repeat go_big_quiet_step ((first|(with_reducible exact aH.quiet (y.o _ _))|(with_reducible exact aH.quiet (x.o _ _))))
     refine wpQuiet_nil ?_;intro V v;have A:=hI (ag D.o v lR);clear v O m2 x0 x1 x2 zm zx zg zb g1 f0 f1 f2 l;have C:(k:Int)<140737488355328:=by have:=u.o;omega
     go_wp2
     go_roundw
     case rel=>exact⟨k+1,r.o,by go_num,A.o⟩
     case measure=>have:=r.o;simp[intOf];omega
    ·cases f.o.symm.trans (MM r.o (.inr q))
  ·obtain rfl:k=F.len:=by omega
   have c:=hI a;clear L o a g;go_wp2;go_ret;exact⟨rfl,c.o⟩
end
section
def aby(P:Bool)(a b:Nd):Option (Gr×List Nat):=
 match T3 (dO l7 b.one (dO l7 a.one (lh (if P then 20 else 0) [] []).1 (lh (if P then 20 else 0) [] []).2).1.1 (dO l7 a.one (lh (if P then 20 else 0) [] []).1 (lh (if P then 20 else 0) [] []).2).1.2).1.1
  ((dO l7 a.one (lh (if P then 20 else 0) [] []).1 (lh (if P then 20 else 0) [] []).2).2.headD 0)
  ((dO l7 b.one (dO l7 a.one (lh (if P then 20 else 0) [] []).1 (lh (if P then 20 else 0) [] []).2).1.1 (dO l7 a.one (lh (if P then 20 else 0) [] []).1 (lh (if P then 20 else 0) [] []).2).1.2).2.headD 0)with
 |none=>none
 |some g=>match eX g with
  |none=>none
  |some _=>some (g,(dO l7 b.one (dO l7 a.one (lh (if P then 20 else 0) [] []).1 (lh (if P then 20 else 0) [] []).2).1.1 (dO l7 a.one (lh (if P then 20 else 0) [] []).1 (lh (if P then 20 else 0) [] []).2).1.2).1.2)
theorem IA:∀(k:Nat) (g:Gr) (ps:List Nat),(∀i,i<g.length->dQ (aX g i)=true->i∈ps)->∀i,i<(lh k g ps).1.length->dQ (aX (lh k g ps).1 i)=true->i∈(lh k g ps).2
 |0,_,_,h=>h
 |k+1,g,ps,h=>by
  unfold lh;refine IA k _ _ λi hi a=> ?_;rw[dS]at hi;by_cases e:i=g.length
  ·subst e;simp
  ·rw[dX _ _ (by omega)]at a;exact List.mem_append_left _ (h i (by omega) a)
theorem vM:∀(f:Fo) (g:Gr) (ps:List Nat),f.jL->(∀i,i<g.length->dQ (aX g i)=true->i∈ps)->∀i,i<(dO l7 f g ps).1.1.length->dQ (aX (dO l7 f g ps).1.1 i)=true->i∈(dO l7 f g ps).1.2
 | .nil,_,_,_,h=>h
 | .cons a n k r,g,ps,j,h=>by
  obtain⟨l,m,c⟩:=j;unfold dO;by_cases d:a=1
  ·simp only[aq d];exact vM r _ _ c (IA _ _ _ h)
  ·simp only[ah d];have o:=vM k g ps m h;refine vM r _ _ c λi hi b=> ?_;rw[dS]at hi;by_cases e:i=(dO l7 k g ps).1.1.length
   ·subst e;rw[iO]at b;unfold dQ at b;exact ay (by simpa using b) l
   ·rw[dX _ _ (by omega)]at b;exact o i (by omega) b
theorem DE:∀{F:Fo},(∀x,F.has x->x.toNat<n)->F.i_<=n
 | .nil,_=>aw _
 | .cons a m k r,h=>by
  unfold Fo.i_;unfold Fo.has at h;by_cases e:a=1
  ·simp only[aq e]at h |-;have c:=h m (.inl rfl);have d:=DE (F:=r) λx b=>h x (.inr b);omega
  ·simp only[ah e]at h |-;have c:=DE (F:=k) λx b=>h x (.inl b);have d:=DE (F:=r) λx b=>h x (.inr b);omega
theorem Trees.has(h:Good g){t:Nat->Nd}(b:Trees g t):∀i,i<g.length->∀x,(t i).one.has x->∃r:Nat,x=(r:Nat)/\r<g.length/\dQ (aX g r)=true/\Go.Proofs.YtnicceekibancaaGreat.find g r=r:=by
 obtain⟨j,l⟩:=b.small;have key:∀(k i:Nat),i<g.length->j (Go.Proofs.YtnicceekibancaaGreat.find g i)<k->∀x,(t i).one.has x->∃r:Nat,x=(r:Nat)/\r<g.length/\dQ (aX g r)=true/\Go.Proofs.YtnicceekibancaaGreat.find g r=r:=by
  intro k
  induction k with
  |zero=>intro i _ h;exact ay h (ax _)
  |succ k m=>
   intro i hi n x a;have c:=h.wf.il hi;cases d:dQ (aX g (Go.Proofs.YtnicceekibancaaGreat.find g i))with
   |true=>
    rw[b.free i hi d,JD,aq rfl]at a;exact⟨_,a,c,d,AV h.wf hi⟩
   |false=>
    rw[b.node i hi d,JD,ah (h.one _ c)]at a;obtain⟨o,e,f⟩:=Xd a;obtain⟨p,hp,rfl⟩:=aN.1 e;have:=l i hi p hp;exact m p (h.wf.parts _ c p hp) (by omega) x f
 exact λi hi=>key _ i hi (Nat.lt_succ_self _)
def JP(g:Gr)(vs:List Nat)(r:Int):Int:=((vs.map (find g)).idxOf r.toNat:Nat)
def BF(g:Gr)(vs:List Nat)(i:Nat):Nd:=(iP g (vs[i]?.getD 0)).put λr=>aeb (JP g vs r)
def JQ(n:Nat)(U:Nat->Nd):List (Nat×Nd):=((List.range n).map λi=>(i,U i)).filter λp=> !(p.2.a==1&&p.2.n==(p.1:Int))
def MN(P:Bool)(a b:Nd):PY (List (Nat×Nd)):=
 match aby P a b with
 |none=>.rp
 |some (g,vs)=>if(List.range vs.length).all λi=>decide ((BF g vs i).size<=20)then .ok (JQ vs.length (BF g vs))else .px
def vO(P:Bool)(C:Kn)(vs:List Int)(t:Nd):Option (Ck×Nat):=
 match xW P (Kx P) C t.a t.n (rM P (Kx P) C t.k) 0 (je (if P then vs else IV false) gX)with
 |none=>none
 |some (S,n)=>match eX S.g with
  |none=>none
  |some _=>some (S,n)
def ur(S:Ck)(v:Int):Nat:=(look S.env v).getD 0
theorem IB:∀(l:List Int) {S:Ck},xU S->(∀y m,look S.env y=some m->look (je l S).env y=some m)/\∀y∈l,∃m,look (je l S).env y=some m
 |[],_,_=>⟨λ_ _ h=>h,λ_ h=>by cases h⟩
 |n::l,S,h=>by
  obtain⟨p,_,_⟩:=adw h n;have a:dY S (me S n).1:=p.later (me S n).1 (me S n).2 rfl;obtain⟨b,c⟩:=IB l a.low;refine⟨λy m e=>b y m (a.env y m e),λy hy=> ?_⟩;rcases aE.1 hy with rfl|hy
  ·have:∃m,look (me S y).1.env y=some m:=by
    unfold me;cases e:look S.env y with
    |some m=>exact⟨m,e⟩
    |none=>exact⟨S.g.length,by show look ((y,S.g.length)::S.env) y=_;rw[dn,aq rfl]⟩
   obtain⟨m,hm⟩:=this;exact⟨m,b y m hm⟩
  ·exact c y hy
section
variable {C:Kn} {vs:List Int} {t:Nd} {P:Bool}
theorem TA(e:vO P C vs t=some (S,n)):∃st,eX S.g=some st:=by
 unfold vO at e
 split at e
 ·cases e
 ·rename_i b m c;cases a:eX b.g with
  |none=>simp only[a]at e;cases e
  |some st=>simp only[a]at e;cases e;exact⟨st,a⟩
def JR(vs:List Int)(r:Option (Ck×Nat)):PY (List Nd):=
 match r with
 |none=>.rp
 |some (S,n)=>match Kw S.g (n::vs.map (ur S))with
  |none=>.px
  |some ts=>.ok ts
def PA(P:Bool)(C:Kn)(vs:List Int)(t:Nd):PY (List Nd):=JR vs (vO P C vs t)
end
end
section
open Go Go.RowKit Go.Sort
attribute [local go_sem] aT cW df nV uV
abbrev afA:Oper:=⟨some 25,.load 74 (.tmp 2),74,ei,#[],none⟩
abbrev afB:Oper:=⟨some 26,.load 147 (.tmp 0),147,ei,#[],none⟩
abbrev afC:Oper:=⟨some 27,.nilCheck (.tmp 26),0,ei,#[aj 1],none⟩
abbrev afD:Oper:=⟨some 28,.fieldAddr 152 (.tmp 27) 4,0,ei,#[aj 2],none⟩
abbrev afE:Oper:=⟨some 29,.load 120 (.tmp 28),120,ei,#[aj 3],none⟩
abbrev afF:Oper:=⟨some 30,.move (.tmp 6),3,ei,#[],none⟩
abbrev afG:Oper:=⟨some 31,.lookup 120 (.tmp 29) (.tmp 30) false,3,ei,#[aj 4,aj 5],none⟩
abbrev afH:Oper:=⟨some 32,.buildSlice 74 1 #[(0,.tmp 31)],74,ei,#[aj 6],none⟩
abbrev afI:Oper:=⟨some 33,.call ⟨.builtin .append,#[.tmp 25,.tmp 32],#[74,74]⟩,74,ei,#[aj 0,aj 7],none⟩
abbrev afJ:Oper:=⟨none,.store 74 (.tmp 2) (.tmp 33),0,ei,#[aj 8,ao 8,al 0,al 1,al 2,al 3,al 4,al 5,al 6,al 7,al 8],none⟩
def Rg:Array Oper:= #[afA,afB,afC,afD,afE,afF,afG,afH,afI,afJ]
theorem cU.akY{gv:Value}{ps:List Value}{uv:Value}{up:List Value}(h:cU X Z w S c r gv ps uv up){T:TypeId}(d:3≠T)(l:152≠T)(m:jU.T≠T)(n:jU.V≠T)(p:177≠T){q:Nat}{g:Array Value}{f0:Nat×Nat}(hq:w.heap[q]? =some (.cells g T f0))(hb:vo q w w')(hB:X.B<=q):cU X Z w' S c r gv ps uv up:=by
 have j:Below X.B w w':=hb.below hB (ai h.hB h.lt.2.2);have a:∀(b:Nat) (cur:Array Value) (t:TypeId) (f:Nat×Nat),t≠T->w.heap[b]? =some (Obj.cells cur t f)->w'.heap[b]? =some (Obj.cells cur t f):=λb cur t f d i=>hb.same _ _ (λe=>by
  subst e;rw[hq]at i;cases i;exact d rfl) i
 have k:∀{mb:Nat} {f:Int->Option Value},eu eT w mb f->eu eT w' mb f:=λ{mb f} hm=>hm.same λo ho=>by
  exact anT
 have G:tX Z w w':=λb cur f s u=>a _ _ _ _ d s;exact⟨a _ _ _ _ l h.fW,h.gr.js h.sep.left.left (λo ho=>by rw[h.gr.fW]at ho;cases ho;exact a _ _ jU.T _ m h.gr.fW) (λq o hq ho=>by
  obtain⟨cur,hc,_⟩:=h.gr.ey hq;rw[hc]at ho;cases ho;exact a _ _ jU.V _ n hc) G,k h.own,k h.env,
  h.us.keep h.sep.left.right (λq cur hq=>a _ _ 177 _ p hq) G,h.md.below j lR,h.ty.below j lR,h.kc.js h.sep.right G,h.sep,h.hB,h.xR,h.xe,h.SW,h.eC,λq hq=>aC (h.uq q hq) hb.size⟩
structure yQ (X:CX) (t:Nd) (ka:Option Addr) (kc:Nat) (vv:Value) (cb tb vb:Nat) (w:World):Prop where
 c:w.heap[cb]? =some (.cells #[.pointer (some ⟨X.cx,0,none⟩)] 147 (0,0))
 t:w.heap[tb]? =some (.cells #[.int .i64 t.a,.int .i64 t.n,.slice ka t.k.len kc] 54 (0,0))
 v:w.heap[vb]? =some (.cells #[vv] 74 (0,0))
theorem yQ.of{t:Nd}{ka:Option Addr}{kc:Nat}{vv:Value}{cb tb vb:Nat}(h:yQ X t ka kc vv cb tb vb w)(a:∀(q:Nat) (cur:Array Value) (T:TypeId),T=147\/T=54\/(T=74/\q=vb)->w.heap[q]? =some (.cells cur T (0,0))->w'.heap[q]? =some (.cells cur T (0,0))):yQ X t ka kc vv cb tb vb w':=
 ⟨a _ _ _ (.inl rfl) h.c,a _ _ _ (.inr (.inl rfl)) h.t,a _ _ _ (.inr (.inr ⟨rfl,rfl⟩)) h.v⟩
theorem yQ.below{t:Nd}{ka:Option Addr}{kc:Nat}{vv:Value}{cb tb vb:Nat}(h:yQ X t ka kc vv cb tb vb w)(a:Below w.heap.size w w'):yQ X t ka kc vv cb tb vb w':=
 h.of λq cur T _ b=>cY a b
theorem yQ.keep{t:Nd}{ka:Option Addr}{kc:Nat}{vv:Value}{cb tb vb:Nat}(h:yQ X t ka kc vv cb tb vb w)(hc:dm X Z w S c)(a:X.Kp w w'):yQ X t ka kc vv cb tb vb w':=
 h.of λq cur T b d=>by
  rcases b with rfl|rfl|⟨rfl,_⟩
  all_goals exact hc.stays a d (by decide) (by decide) (by unfold Ic;decide)
structure Gw (X:CX) (ub:Nat) (w1:World) (S:Ck) (c:Nat) (ns:List Nat) (nv:Value) (W:World):Prop where
 raw:∃r gv ps uv up,cU X (ZR (λ_=>False) nv) W S c r gv ps uv up
 o:W.heap[ub]? =some (.cells #[nv] 74 (0,0))
 own:W.ownsRow w1.heap.size 3 1 nv ns.length (cE (cX ns))
 fix:Fix (λq=>q=ub) w1 W
 B:X.B<=w1.heap.size
 ule:X.B<=ub
theorem Gw.below{ub:Nat}{w1:World}{ns:List Nat}{nv:Value}(h:Gw X ub w1 S c ns nv W)(a:Below W.heap.size W W'):Gw X ub w1 S c ns nv W':=by
 obtain⟨r,gv,ps,uv,up,b⟩:=h.raw;exact⟨⟨r,gv,ps,uv,up,b.below a⟩,cY a h.o,gC h.own (CK.below a),h.fix.below a,h.B,h.ule⟩
theorem Gw.push{ub:Nat}{w1:World}{ns:List Nat}{nv d:Value}{x:Nat}(h:Gw X ub w1 S c ns nv W)(g:W'.ownsRow w1.heap.size 3 1 d (ns.length+1) (cE (cX ns)++[.int .i64 (x:Nat)]))(a:W.grownBy W' nv.ownBlock)(j:d.ownBlock=nv.ownBlock\/d.ownBlock=some W.heap.size):
 W'.heap[ub]? =some (.cells #[nv] 74 (0,0))/\Gw X ub w1 S c (ns++[x]) d (W'.setCell ⟨ub,0,none⟩ d):=by
 obtain⟨r,gv,ps,uv,up,k⟩:=h.raw;have l:=k.append h.own a j g h.B;have f:W'.heap[ub]? =some (.cells #[nv] 74 (0,0)):=(a.block ub (gE h.o).1 (λe=>lQ h.own h.o (by decide) _ e.symm rfl)).trans h.o;have m:Fix (λq=>q=ub) w1 W':=⟨a.os.trans h.fix.os,a.tape.trans h.fix.tape,a.output.trans h.fix.output,ai h.fix.size a.size,λb i n=>(a.block b (aC i h.fix.size) (λe=>by have:=(iI h.own b e.symm).1;omega)).trans (h.fix.block b i n)⟩;refine⟨f,⟨r,gv,ps,uv,up,l.akY (by decide) (by decide) (by decide) (by decide) (by decide) f (vo.set _ _ _) h.ule⟩,?_,?_,m.setCell rfl _,h.B,h.ule⟩
 ·simp only[World.setCell,Array.getElem?_modify,if_true,f,Option.map_some]
  rfl
 ·rw[kO,<-eZ,az,aY];exact mi g f (by decide)
theorem yQ.after{t:Nd}{ka:Option Addr}{kc:Nat}{vv:Value}{cb tb ub vb:Nat}{w1:World}{ns:List Nat}{nv:Value}(h:yQ X t ka kc vv cb tb vb w1)(a:Gw X ub w1 S c ns nv W)(hu:∃v,w1.heap[ub]? =some (.cells #[v] 74 (0,0)))(eC:vb≠ub):yQ X t ka kc vv cb tb vb W:=by
 refine h.of λq cur T b hq=> ?_;obtain⟨v,hu⟩:=hu;rw[a.fix.block q (gE hq).1 λe=> ?_]
 ·exact hq
 ·subst e;rcases b with rfl|rfl|⟨rfl,e⟩
  ·exact aob
  ·exact aob
  ·exact eC e.symm
theorem dw.after{ub:Nat}{w1:World}{ns:List Nat}{nv vv:Value}{vl:List Nat}(h:dw w1 vv vl)(d:Gw X ub w1 S c ns nv W)(hu:∃v,w1.heap[ub]? =some (.cells #[v] 74 (0,0))):dw W vv vl:=
 h.keep λb cur f a=>by
  obtain⟨v,hu⟩:=hu;rw[d.fix.block b (gE a).1 λe=>by
   subst e;rw[a]at hu;simp only[aL,Obj.cells.injEq]at hu;exact ay hu.2.1 (by decide)]
  exact a
def Yc(X:CX)(cb ub:Nat)(vl:List Nat)(w:World)(r:Option (Ck×Nat))(e:Ending)(w':World):Prop:=
 Below X.base w w'/\(∀(q:Nat) (cur:Array Value),w.heap[q]? =some (.cells cur 4 (0,0))->w'.heap[q]? =some (.cells cur 4 (0,0)))/\match r with
 |none=>e=.panicked [{ v:=m9,recovered:=false}]
 |some (S,n)=>e=.returned (.tuple #[])/\iA X S/\S.g.length<=900000000/\S.us.length<=900000000/\jq kF S.g/\(∀k∈n::vl.map λv=>ur S (v:Nat),k<S.g.length)/\w'.heap[cb]? =some (.cells #[.pointer (some ⟨X.cx,0,none⟩)] 147 (0,0))/\∃c nv,w'.heap[ub]? =some (.cells #[nv] 74 (0,0))/\dw w' nv (n::vl.map λv=>ur S (v:Nat))/\dm X (λ_=>False) w' S c
theorem TB(hX:Ds X){t:Nd}(ht:jb X t.one){vl:List Nat}(Es:vl.length<=100000){S0:Ck}(y:S0=je (cX vl) gX)(p_:iA X S0)(Dn:jq kF S0.g)(r8:Room S0 0 t.size)(h:dm X (λ_=>False) w S0 0){ka:Option Addr}{kc:Nat}{vv:Value}{cb tb ub vb:Nat}(F:yQ X t ka kc vv cb tb vb w)
 (u:w.heap[ub]? =some (.cells #[.slice none 0 0] 74 (0,0))) (eC:vb≠ub) (hk:dr w X.B (.slice ka t.k.len kc) t.k) (A:dw w vv vl) (hle:X.base<=ub) {S9:Ck} {n9:Nat} (g:vO true X.C (cX vl) t=some (S9,n9)):
 Calls Tryz.prog 161 #[.pointer (some ⟨cb,0,none⟩),.pointer (some ⟨tb,0,none⟩),.pointer (some ⟨ub,0,none⟩),.pointer (some ⟨vb,0,none⟩)] w (Yc X cb ub vl w (some (S9,n9))):=by
 obtain⟨va,vc,rfl⟩:=A.slice;have p:X.B<=X.base:=h.ae7.2.2.2.2.1;have r:vO true X.C (cX vl) t=(match X.one t 0 S0 with|none=>none|some (S,n)=>match eX S.g with|none=>none|some _=>some (S,n)):=by
  unfold vO;rw[y];rfl
 have ix:=hI r;clear r;obtain⟨R,a⟩:=xE (some (S9,n9));rw[g,<-a]at ix;rw[<-a];have I:=hI a;clear g a;have G:xU gX:=rN;have j:=(IB (cX vl) G).2;rw[<-y]at j;have c0:=cZ F.c;have t0:=cZ F.t;have t1:=eY F.t;have t2:=fu F.t;have J:=af c0;have zt:=af t0;have d:=Dw hX t.size t lR ht (λ_=>False) S0 0 (.agg #[.int .i64 t.a,.int .i64 t.n,.slice ka t.k.len kc]) w h p_ r8 ⟨_,rfl,hk⟩;have Y:=λS m=>vF hX ht (S:=S0) (S':=S) (m:=m) (c:=0) p_;obtain⟨rQ,fw,H,HB,HUB,HV,Vh,QY,HSR,HSH,Co,GS⟩:=h_12 Y d h F u A Es r8 Dn j p eC;have wQ:=hI hle;obtain⟨RE,o⟩:=xE (X.one t 0 S0);rw[<-o]at ix fw;have L:=hI o;clear Y d hX h F u A r8 Dn j p o y p_ ht hk G eC hle
 go_enter Tryz.func161,Tryz.ntmps161
 cases RE with
 |none=>
  have h:=ix.o.symm.trans I.o;cases h
 |some z=>
  obtain⟨a,n⟩:=z;obtain⟨j,Y,x,u⟩:=rQ.o a n L.o.symm
  go_wp2_with fail
  refine fw.o.mono ?_;rintro e w2 ⟨o,rfl,h2⟩;clear c0 t0 t1 t2 J zt;have p:=HB.o.keep H.o o;have B:=H.o.stays o HUB.o (by decide) (by decide) (by unfold Ic;decide);have G:=HV.o.keep (H.o.qU o);have HL2:=hI (H.o.low o lR);have RW:Hd (∀(q:Nat) (cur:Array Value),w.heap[q]? =some (.cells cur 4 (0,0))->w2.heap[q]? =some (.cells cur 4 (0,0))):=hI λq cur d=>H.o.stays o d (by decide) (by decide) (by unfold Ic;decide);have r:a.g.length<=900000000:=by have:=QY.o.1;have:=u.len;omega
  have C:jq kF a.g:=u.wV kF (by unfold kF;omega) (by unfold kF;omega) (by unfold kF;omega) (by unfold kF;omega) HSR.o;obtain⟨r0,gv,ps,uv,up,g⟩:=h2;have qD:=hI (s_ g.gr j.ok.low.good.wf (ai r (by decide)));have c0:=cZ p.c;have g0:w2.cell? ⟨X.cx,0,none⟩=some (.pointer (some ⟨X.gx,0,none⟩)):=g.at.c0;have J:=af c0;have zg:=af g0;have l:∀v∈cX vl,look a.env v=some (ur a v):=λv A=>by
   obtain⟨m,hm⟩:=HSH.o v A;have:=x.env v m hm;unfold ur;rw[this];rfl
  have cR:=hI p;have HU2:=hI B;have Ub:=hI G;have AN:=hI r;have HUL:Hd (a.us.length<=900000000):=hI (by have:=QY.o.2.1;have:=u.us;omega);have Uf:=hI C;have H2:=hI g;have M:=hI j;have jN:=hI Y;have N:=hI l;have s:R=(match eX a.g with|none=>none|some _=>some (a,n)):=ix.o;clear o p B G r C g j Y x u l fw rQ L;cases kg:eX a.g with
  |none=>
   rw[kg]at s;have h:=s.symm.trans I.o;cases h
  |some st=>
   rw[kg]at qD s;obtain rfl:R=some (a,n):=s;clear kg
   go_wp2_with fail
   refine qD.o.mono ?_;rintro e r ⟨rfl,j⟩;clear c0 g0 J zg;have G:X.B<=r.heap.size:=by have:=Co.o;have:=H2.o.lt.2.2;have:=j.size;omega
   have HL4:=hI (HL2.o.trans (j.mono H2.o.lt.2.2));have HQ4:Hd (∀(q:Nat) (cur:Array Value),w.heap[q]? =some (.cells cur 4 (0,0))->r.heap[q]? =some (.cells cur 4 (0,0))):=hI λq cur d=>cY j (RW.o q cur d);have o:=cY j HU2.o;have u:=H2.o.below j;have g:Gw X ub r a (0+t.size) [] (.slice none 0 0) r:=⟨⟨_,_,_,_,_,u.z λq d=>by rcases d with d|d;exact d;cases d⟩,o,aZ _ _ _ _,Fix.refl _ _,G,ai Co.o wQ.o⟩;have oI:=hI (cR.o.below j);have HV4:=hI (Ub.o.keep λb cur f d=>cY j d);have akZ:=hI j.size;have p:Hd (∃v,r.heap[ub]? =some (.cells #[v] 74 (0,0))):=hI ⟨_,o⟩;have O:=Below.cA r (.cells #[.int .i64 (n:Nat)] 3);have Hq:=hI (g.below O);have JJ:=hI (a_ r (.cells #[.int .i64 (n:Nat)] 3));have P:=cZ o;have zu:=af P;clear j G o u g O qD
   go_wp2_with (at_builtin;refine lM rfl Cp _ _ rfl rfl Hq.o.own (q:=r.heap.size) (us:=[.int .i64 (n:Nat)]) rfl JJ.o rfl (one_one rfl) (by decide) (by simp) ?_;intro v' B C Q T;obtain⟨D,vd,rfl⟩:=cr C;obtain⟨j,o⟩:=Hq.o.push C Q T;have E:=hI o;have u5:B.cell? ⟨ub,0,none⟩=some (.slice none 0 0):=(by rw[cell_of_row _ _ _ _ _ _ j];rfl);have f5:B.frozen? ⟨ub,0,none⟩=false:=(by simp[World.frozen?,j]);have z5:=af u5;have G:yQ X t ka kc (.slice va vl.length vc) cb tb vb (B.setCell ⟨ub,0,none⟩ (.slice D 1 vd)):=oI.o.after o p.o GS.o;have v5:(B.setCell ⟨ub,0,none⟩ (.slice D 1 vd)).cell? ⟨vb,0,none⟩=some (.slice va vl.length vc):=(by rw[cell_of_row _ _ _ _ _ _ G.v];rfl);have u:=af v5;have ahq:=Vh.o;clear C Q T j o G P zu)
   clear v5 u u5 f5 z5
   go_loopw [21] (λi wr=>∃(k:Nat) (nv:Value),k<=vl.length/\i=.int .i64 k/\Gw X ub r a (0+t.size) (n::(vl.take k).map λv=>ur a (v:Nat)) nv wr) (λi _=>vl.length-(intOf i).toNat)
   case atStart=>exact⟨0,_,aw _,rfl,E.o⟩
   case round=>
    obtain⟨k,nv,hk,rfl,g⟩:=hrel;obtain⟨xa,xc,rfl⟩:=cr g.own;have hlen:(n::(vl.take k).map λv=>ur a (v:Nat)).length=k+1:=by rw[aD,aW,List.length_take];omega
    rw[hlen]at g;have hint:dw wr (.slice va vl.length vc) vl:=HV4.o.after g p.o;have u:=(oI.o.after g p.o GS.o).c;by_cases bO:k<vl.length
    ·obtain⟨v,WA⟩:=xE (vl[k]);have Y:(vl.take (k+1)).map (λv=>ur a (v:Nat))=(vl.take k).map (λv=>ur a (v:Nat))++[ur a (v:Nat)]:=by rw[aV bO,bA,WA];rfl
     have l:=N.o (v:Nat) (vB.2 (by rw[WA];exact aR _));have oF:=hint.ints;unfold Ints at oF;rw[eP]at oF;obtain⟨_,a',oh,he,_,_,Np⟩:=oF;obtain⟨nb,no,NA,qM,bX⟩:=Np (by omega);cases he;subst NA;have d0:wr.cell? ⟨nb,no+k,none⟩=some (.int .i64 (v:Nat)):=by
      exact an5
     have om:(k:Int)<(vl.length:Int):=by omega
     have c0:=cZ u;have J:=af c0;have P:=cZ g.o;obtain⟨r1,Q2,LA,U,W,x⟩:=g.raw;have e7:wr.cell? ⟨X.cx,7,none⟩=some (.map (some X.eb)):=x.at.c7;generalize hm:ur a (v:Nat)=m at l Y;obtain⟨HFK,wS,dL,ak0⟩:=h_4 g Y bO l;clear x g Y bO l Np bX hint u WA hm
     go_wp2_with fail
     refine ff (S:=λV=>V.cell? ⟨ub,0,none⟩=some (.slice xa (k+1) xc)/\V.cell? ⟨cb,0,none⟩=some (.pointer (some ⟨X.cx,0,none⟩))/\V.cell? ⟨X.cx,7,none⟩=some (.map (some X.eb))) 8 (by kernel_rfl) (by decide) (⟨P,c0,e7⟩) (λhHeld=> ?_)
     change mI _ _ Rg _ _ _ _ _ _ _ _
     refine oD (λZ=>Below wr.heap.size wr Z) (Below.ia bR) hHeld ?_;clear hHeld;rintro V dU hHeld;refine qH 0 ⟨some 25,.load 74 (.tmp 2),74,ei,#[],none⟩ hHeld ?_;refine qH 1 ⟨some 26,.load 147 (.tmp 0),147,ei,#[],none⟩ hHeld ?_;refine qH 2 ⟨some 27,.nilCheck (.tmp 26),0,ei,#[aj 1],none⟩ hHeld ?_;refine qH 3 ⟨some 28,.fieldAddr 152 (.tmp 27) 4,0,ei,#[aj 2],none⟩ hHeld ?_;refine qH 4 ⟨some 29,.load 120 (.tmp 28),120,ei,#[aj 3],none⟩ hHeld ?_;refine qH 5 ⟨some 30,.move (.tmp 6),3,ei,#[],none⟩ hHeld ?_;have G:=HFK.o.below dU;obtain⟨r1,Q2,LA,U,W,x⟩:=G.raw;have qE:(Instr.lookup 120 (.map (some X.eb)) (.int .i64 (v:Nat)) false).run Tryz.prog V=.ok (.int .i64 ((m:Nat):Int)) V:=x.env.get_at (k:=(v:Nat)) (v:=nV m) (by rw[aq (Int.natCast_nonneg v),ak0.o];rfl);have O:=Below.cA V (.cells #[.int .i64 (m:Nat)] 3);have Y:=hI (G.below O);have HNV:=hI (a_ V (.cells #[.int .i64 (m:Nat)] 3));have HZV:Hd (r.heap.size<=V.heap.size):=hI G.fix.size;have uh:=Y.o.o;have u1:(V.alloc (.cells #[.int .i64 (m:Nat)] 3)).cell? ⟨ub,0,none⟩=some (.slice xa (k+1) xc):=by rw[cell_of_row _ _ _ _ _ _ uh];rfl
     have hcV:=(oI.o.after Y.o p.o GS.o).c;have c1:(V.alloc (.cells #[.int .i64 (m:Nat)] 3)).cell? ⟨cb,0,none⟩=some (.pointer (some ⟨X.cx,0,none⟩)):=by rw[cell_of_row _ _ _ _ _ _ hcV];rfl
     obtain⟨r2,gv2,Zp,uv2,up2,A1⟩:=Y.o.raw;have e1:(V.alloc (.cells #[.int .i64 (m:Nat)] 3)).cell? ⟨X.cx,7,none⟩=some (.map (some X.eb)):=A1.at.c7;have HHE:=hI (show _/\_/\_ from⟨u1,c1,e1⟩);clear G x A1 O dU uh P c0 J e7 d0 u1 c1 e1 hcV;refine qO 6 ⟨some 31,.lookup 120 (.tmp 29) (.tmp 30) false,3,ei,#[aj 4,aj 5],none⟩ λK hK=> ?_;go_simp;refine qK hK (hHeld) λhHeld=> ?_;clear hK K;refine qO 7 ⟨some 32,.buildSlice 74 1 #[(0,.tmp 31)],74,ei,#[aj 6],none⟩ λK hK=> ?_;go_simp;refine qK hK (HHE.o) λhHeld=> ?_;clear hK K;refine jQ (by kernel_rfl) ?_
     change wpList _ Rg _ [⟨some 33,.call ⟨.builtin .append,#[.tmp 25,.tmp 32],#[74,74]⟩,74,ei,#[aj 0,aj 7],none⟩,⟨none,.store 74 (.tmp 2) (.tmp 33),0,ei,#[aj 8,ao 8,al 0,al 1,al 2,al 3,al 4,al 5,al 6,al 7,al 8],none⟩] _ _
     clear hHeld;have G:=hlen
     go_wp2_with (at_builtin;refine lM rfl Cp _ _ rfl rfl Y.o.own (q:=V.heap.size) (us:=[.int .i64 (m:Nat)]) rfl HNV.o rfl (one_one rfl) (by rw[G];have:=Vh.o;have:=dL.o;omega) (by have:=HZV.o;simp;omega) ?_;intro v' B C Q T;obtain⟨D,vd,rfl⟩:=cr C;obtain⟨j,o⟩:=Y.o.push C Q T;have E:=hI o;have u5:B.cell? ⟨ub,0,none⟩=some (.slice xa (k+1) xc):=(by rw[cell_of_row _ _ _ _ _ _ j];rfl);have f5:B.frozen? ⟨ub,0,none⟩=false:=(by simp[World.frozen?,j]);have z5:=af u5;clear C Q T j o)
     go_roundw
     case rel=>exact⟨k+1,_,dL.o,by go_num,by rw[wS.o];have h:=E.o;rw[hlen]at h;exact h⟩
     case measure=>have:=dL.o;simp[intOf];omega
    ·obtain rfl:k=vl.length:=by omega
     rw[bE]at g;obtain⟨r1,Q2,LA,U,W,x⟩:=g.raw;have Y:Hd (Yc X cb ub vl w (some (a,n)) (.returned (.tuple #[])) wr):=hI ⟨HL4.o.trans (g.fix.toBelow (n:=X.base) (by have:=H2.o.lt.2.2;exact ai this akZ.o) λq e=>by rw[e];exact wQ.o),λq cur d=>by
      have G:=HQ4.o q cur d;rw[g.fix.block q (gE G).1 λe=>by
       obtain⟨v,hu⟩:=p.o;subst e;rw[G]at hu;simp only[aL,Obj.cells.injEq]at hu;exact ay hu.2.1 (by decide)]
      exact G,rfl,M.o,AN.o,HUL.o,Uf.o,(λq d=>by
      rcases aE.1 d with rfl|d
      ·exact jN.o
      ·obtain⟨v,A,rfl⟩:=aN.1 d;exact M.o.ok.low.env _ _ (N.o (v:Nat) (vB.2 A))),u,_,_,g.o,dw.pF g.own (by rw[aD,aW];have:=Vh.o;omega),_,_,_,_,_,x.z λq d=>d.elim⟩
     clear x g u hint;go_wp2
     go_end0
     exact Y.o
structure ki (gb:Nat) (Z:Nat->Prop) (g:Gr) (W:World):Prop where
 gr:∃r gv ps,ed jU W gb gb g r gv ps/\lD Z ps
 low:∀q,Z q->q<W.heap.size
structure qp (gb:Nat) (W W':World):Prop where
 os:W'.os=W.os
 tape:W'.tape=W.tape
 output:W'.output=W.output
 size:W.heap.size<=W'.heap.size
 keep:∀(q:Nat) (o:Obj),W.heap[q]? =some o->I5 jU o->W'.heap[q]? =some o
 low:Below gb W W'
theorem qp.Rh{gb:Nat}{r':Option Nat}{gv:Value}{ps:List Value}(a:ed jU W gb gb g r gv ps)(h:mR gb r r' W W'):qp gb W W':=
 ⟨h.os,h.tape,h.output,h.size,λq o b c=>h.keep a b c,a.toBelow h lR (bt a.lt.1)⟩
theorem qp.cB{gb:Nat}(h:Below W.heap.size W W')(a:gb<=W.heap.size):qp gb W W':=
 ⟨h.os,h.tape,h.output,h.size,λq o b _=>cY h b,h.mono a⟩
theorem qp.trans{gb:Nat}{a b:World}(h:qp gb W a)(h':qp gb a b):qp gb W b:=
 ⟨h'.os.trans h.os,h'.tape.trans h.tape,h'.output.trans h.output,ai h.size h'.size,λq o d c=>h'.keep q o (h.keep q o d c) c,h.low.trans h'.low⟩
section
variable {gb:Nat} {Z:Nat->Prop} {g:Gr} {W W':World}
theorem ki.lt(h:ki gb Z g W):gb<W.heap.size:=by obtain⟨_,_,_,a,_⟩:=h.gr;exact a.lt.1
theorem ki.below(h:ki gb Z g W)(a:Below W.heap.size W W'):ki gb Z g W':=by
 obtain⟨r,gv,ps,b,c⟩:=h.gr;exact⟨⟨r,gv,ps,b.below a,c⟩,λq d=>aC (h.low q d) a.size⟩
theorem ki.TD(h:ki gb Z g W)(o:Obj):ki gb (λq=>Z q\/q=W.heap.size) g (W.alloc o):=by
 obtain⟨r,gv,ps,d,i⟩:=h.gr;have j:=Sep.Ca d (o:=some W.heap.size) λq e=>by cases e;exact lR
 refine⟨⟨r,gv,ps,d.below (Below.cA W o),λp hp a n c e f b=> ?_⟩,λq b=> ?_⟩
 ·rcases b with b|b
  ·exact i p hp a n c e f b
  ·exact j p hp a n c e f (by rw[b])
 ·rcases b with b|rfl
  ·have:=h.low q b;simp;omega
  ·simp
theorem ki.z{Z':Nat->Prop}(h:ki gb Z g W)(a:∀q,Z' q->Z q):ki gb Z' g W:=by
 obtain⟨r,gv,ps,b,c⟩:=h.gr;exact⟨⟨r,gv,ps,b,c.mono a⟩,λq d=>h.low q (a q d)⟩
theorem ki.but(h:ki gb Z g W){q:Nat}(i:vo q W W')(a:Z q\/∃cur t f,W.heap[q]? =some (.cells cur t f)/\t≠3)(p:∃o,W.heap[q]? =some o/\I5 jU o):ki gb Z g W':=by
 obtain⟨r,gv,ps,j,l⟩:=h.gr;obtain⟨o,c,m⟩:=p;have s:gb≠q:=λe=>by
  subst e;rw[j.fW]at c;cases c;exact m.1 rfl
 have u:∀d,r=some d->d≠q:=λd k e=>by
  subst e;obtain⟨cur,hc,_⟩:=j.ey k;rw[hc]at c;cases c;exact m.2 rfl
 refine⟨⟨r,gv,ps,j.js l (λo c=>i.same _ _ s c) (λd o k c=>i.same _ _ (u d k) c) (λb cur f n v=>i.same _ _ (λe=> ?_) n),l⟩,λq a=>aC (h.low q a) i.size⟩;rcases a with a|⟨x,y,z,a,w⟩
 ·exact v (by rw[e];exact a)
 ·rw[<-e,n]at a;cases a;exact w rfl
theorem Ye(h:ki gb Z g W)(d:g.length<=1000000000):
 Calls Tryz.prog 71 #[.pointer (some ⟨gb,0,none⟩)] W λe W'=>e=.returned (.int .i64 (g.length:Nat))/\ki gb Z (g++[⟨0,0,[],none⟩]) W'/\qp gb W W':=by
 obtain⟨r,gv,ps,b,f⟩:=h.gr;refine(Bp b (bt b.lt.1) d).mono ?_;rintro e W' ⟨rfl,r',v',i,hm⟩;exact⟨rfl,⟨⟨r',v',_,i,f.append λp hp a n c e k=>by rw[aJ.1 hp]at e;cases e⟩,λq j=>aC (h.low q j) hm.size⟩,qp.Rh b hm⟩
end
def iX(k:Nat):Gr:=List.replicate k ⟨0,0,[],none⟩
theorem FF(k:Nat):iX k++[⟨0,0,[],none⟩]=iX (k+1):=by unfold iX;rw[List.replicate_succ']
theorem AD:∀(k n:Nat),lh k (iX n) (List.range n)=(iX (n+k),List.range (n+k))
 |0,n=>rfl
 |k+1,n=>by
  unfold lh;rw[FF,show(iX n).length=n by unfold iX;simp,<-List.range_succ,AD k (n+1)]
  congr 2<;>omega
theorem Ri:lh 20 [] []=(iX 20,List.range 20):=by
 have:=AD 20 0;rw[a8]at this;exact this
def w_(k:Nat):Array Value:=((List.range 20).map λj=>Value.int .i64 (if j<k then((j:Nat):Int)else 0)).toArray
theorem vP{i:Nat}(hi:i<20):(w_ k)[i]? =some (.int .i64 (if i<k then((i:Nat):Int)else 0)):=by
 unfold w_;rw[aF,List.getElem?_map,dh hi];rfl
theorem BG(k:Nat):(w_ k).size=20:=by unfold w_;simp
theorem Yf(a:k<20):(w_ k).set! k (.int .i64 ((k:Nat):Int))=w_ (k+1):=by
 apply Array.ext_getElem?;intro i;rw[Array.set!_eq_setIfInBounds,Array.getElem?_setIfInBounds,BG];by_cases hi:i<20
 ·rw[vP hi,vP hi];by_cases e:k=i
  ·rw[aq e,aq (by omega),aq (by omega),e]
  ·rw[ah e];by_cases h:i<k
   ·rw[aq h,aq (by omega)]
   ·rw[ah h,ah (by omega)]
 ·rw[ah (by omega),Array.getElem?_eq_none (by rw[BG];omega),Array.getElem?_eq_none (by rw[BG];omega)]
theorem PB(W:World)(nb:Nat)(n:Int)(a:W.heap[nb]? =some (.cells (w_ 20) 111 (0,0)))(c:0<=n)(d:n.toNat<20):
 Calls Tryz.prog 72 #[.int .i64 n,.pointer (some ⟨nb,0,none⟩)] W λe W'=>e=.returned (.int .i64 n)/\W'=W:=by
 obtain⟨k,rfl⟩:∃k:Nat,n=k:=⟨n.toNat,by omega⟩;have b:k<20:=by omega
 have c0:W.cell? ⟨nb,k,none⟩=some (.int .i64 (k:Nat)):=by rw[cell_of_row _ _ _ _ _ _ a,vP b,aq b]
 have f:=af c0;have g:(k:Int)<20:=by omega
 clear a c d
 go_enter Tryz.func72,Tryz.ntmps72
 go_wp2;go_ret;exact⟨rfl,rfl⟩
def vfC(ps:List Nat)(g:Gr)(_:Unit)(x:Int):(Gr×Unit)×Nat:=((g,()),(ny ps x).getD 0)
theorem adb{gb nb:Nat}(h:ki gb Z g W)(f:W.heap[nb]? =some (.cells (w_ 20) 111 (0,0))){T:Nd}{tv:Value}(i:T.one.nr)(j:∀x,T.one.has x->0<=x/\x.toNat<20)(k:cV W gb tv T)(l:g.length+T.size<=1000000000):
 Calls Tryz.prog 73 #[.pointer (some ⟨gb,0,none⟩),tv,.func (.func 72) #[] #[.pointer (some ⟨nb,0,none⟩)]] W λe W'=>
  e=.returned (.int .i64 ((dO (vfC (List.range 20)) T.one g ()).2.headD 0:Nat))/\ki gb Z (dO (vfC (List.range 20)) T.one g ()).1.1 W'/\qp gb W W':=by
 obtain⟨r,gv,ps,c,m⟩:=h.gr;refine(Fm (V:=Unit) (vf:=vfC (List.range 20)) (P:=λx=>0<=x/\x.toNat<20) (E:=λ_=>False) (D:=λq=>q=nb) (St:=λ_ W=>W.heap[nb]? =some (.cells (w_ 20) 111 (0,0))) (base:=gb) (x:=gb) (B:=gb)
  (gf:=72) (caps:= #[.pointer (some ⟨nb,0,none⟩)]) (enters_of Tryz.func72 (by kernel_rfl) rfl) (λg v x=>Nat.le_succ _) lR (λq a=>a.elim) (λ_ _ _ q a=>a.elim) (λv W b q a=> ?_) (λv W W' b o=> ?_) (λg v n W r gv ps d c p s b=> ?_)
  T.size T g () tv W r gv ps lR k i j c (bt c.lt.1) l f).mono ?_
 ·subst a;exact⟨_,b,by exact⟨by decide,by decide⟩⟩
 ·exact o _ _ rfl b
 ·refine(PB W nb n b d.1 d.2).mono ?_;rintro e W' ⟨rfl,rfl⟩;refine⟨?_,r,gv,ps,c,jy.refl _ _,b,m_.refl _ _ _ _⟩;have:(ny (List.range 20) n).getD 0=n.toNat:=by
   unfold ny;rw[ah (by omega),dh d.2];rfl
  show Ending.returned (.int .i64 n)=.returned (.int .i64 (((ny (List.range 20) n).getD 0:Nat):Int));rw[this]
  congr 2
  omega
 ·rintro e w' ⟨rfl,r',b,d,o,hp,_,hm⟩;exact⟨rfl,⟨⟨r',b,d,o,hp.ael m h.low⟩,λq a=>aC (h.low q a) hm.size⟩,qp.Rh c hm.toV⟩
def fin1(g:Gr):Option Gr:=match eX g with
 |none=>none
 |some _=>some g
def oK(g:Gr)(x y:Nat):Option Gr:=match T3 g x y with
 |none=>none
 |some g'=>fin1 g'
def ak1(gb:Nat)(Z:Nat->Prop)(W:World)(r:Option Gr)(e:Ending)(W':World):Prop:=qp gb W W'/\match r with
 |none=>e=.panicked [{ v:=m9,recovered:=false}]
 |some g=>e=.returned (.tuple #[])/\ki gb Z g W'
theorem PC{gb pb p s:Nat}(h:ki gb Z g W)(hp:W.heap[pb]? =some (.cells #[.pointer (some ⟨gb,0,none⟩)] 107 (0,0))){x y:Nat}(t:W.heap[p]? =some (.cells #[.int .i64 (x:Nat)] 3 (0,0)))(hy:W.heap[s]? =some (.cells #[.int .i64 (y:Nat)] 3 (0,0)))
 (hw:Good g) (m:Uc g) (c:x<g.length) (f:y<g.length) (j:g.length<=1000000000):
 Calls Tryz.prog 75 #[.pointer (some ⟨pb,0,none⟩),.pointer (some ⟨p,0,none⟩),.pointer (some ⟨s,0,none⟩)] W (ak1 gb Z W (oK g x y)):=by
 obtain⟨r,gv,ps,b,k⟩:=h.gr;have n:=h.low;have a:=Bq (g.length+1) b (bt b.lt.1) hw.wf m (by omega) c f j;have he:DK (g.length+1) g x y=T3 g x y:=rfl;rw[he]at a;have o:=λg'=>hw.eq (g':=g') c f;have c0:=cZ hp;have c1:=cZ t;have c2:=cZ hy;have z0:=af c0;have u:=af c1;have z2:=af c2;obtain⟨i,v,l,A,B,C,D⟩:=h_7 a b o k hp j n;clear a b o k hp t hy hw m c f j h n he;obtain⟨R,d⟩:=xE (oK g x y);rw[<-d]
 go_enter Tryz.func75,Tryz.ntmps75
 cases he:T3 g x y with
 |none=>
  have a:R=none:=by rw[d];unfold oK;rw[he]
  rw[he]at i;clear he d;subst a
  go_wp2_with fail
  refine i.o.mono ?_;rintro e w ⟨rfl,r',hm⟩;have j:=hI (qp.Rh v.o hm);clear hm c0 c1 c2 z0 u z2;go_wp2;exact⟨rfl,j.o,rfl⟩
 |some g'=>
  obtain⟨gd,o,_⟩:=l.o g' he;rw[he]at i;have a:R=fin1 g':=by rw[d];unfold oK;rw[he]
  have f:=hI a;clear he d a
  go_wp2_with fail
  refine i.o.mono ?_;rintro e w ⟨rfl,r',v',m,hm⟩;clear c0 c1 c2 z0 u z2;have c:=qp.Rh v.o hm;have z:=c.keep _ _ B.o (by exact⟨by decide,by decide⟩);have c0:=cZ z;have z0:=af c0;have k:=hI (s_ m gd.wf (by rw[o];exact C.o));have j:=hI c;have n:Hd (ki gb Z g' w):=hI ⟨⟨_,_,_,m,A.o⟩,λq E=>aC (D.o q E) c.size⟩;clear hm c z m gd o;cases b:eX g' with
  |none=>
   have a:R=none:=by rw[f.o];unfold fin1;rw[b]
   rw[b]at k;clear b;subst a
   go_wp2_with fail
   refine k.o.mono ?_;rintro e z ⟨rfl,c⟩;have m:=hI (j.o.trans (qp.cB c (bt n.o.lt)));clear c c0 z0;go_wp2;exact⟨rfl,m.o,rfl⟩
  |some st=>
   have a:R=some g':=by rw[f.o];unfold fin1;rw[b]
   rw[b]at k;clear b;subst a
   go_wp2_with fail
   refine k.o.mono ?_;rintro e z ⟨rfl,c⟩;have m:=hI (j.o.trans (qp.cB c (bt n.o.lt)));have o:=hI (n.o.below c);clear c c0 z0;go_wp2
   go_end0
   exact⟨m.o,rfl,o.o⟩
structure qq (X:CX) (cb:Array Value) (bn bc tb mb:Nat) (v:En) (W:World):Prop where
 bn:W.heap[bn]? =some (.cells #[.map (some mb)] 120 (0,0))
 bc:W.heap[bc]? =some (.cells #[.func (.func 111) #[] #[.pointer (some ⟨tb,0,none⟩)]] 113 (0,0))
 tb:W.heap[tb]? =some (.cells #[.pointer (some ⟨X.cx,0,none⟩)] 147 (0,0))
 cx:W.heap[X.cx]? =some (.cells cb 152 (0,0))
 map:eu eT W mb (λx=>(look v x).map nV)
section
variable {X:CX} {cb:Array Value} {bn bc tb mb:Nat} {v:En} {W W':World}
theorem qq.keep(h:qq X cb bn bc tb mb v W)(a:∀(q:Nat) (o:Obj),(q=bn\/q=bc\/q=tb\/q=X.cx\/q=mb)->W.heap[q]? =some o->W'.heap[q]? =some o):qq X cb bn bc tb mb v W':=
 ⟨a _ _ (.inl rfl) h.bn,a _ _ (.inr (.inl rfl)) h.bc,a _ _ (.inr (.inr (.inl rfl))) h.tb,a _ _ (.inr (.inr (.inr (.inl rfl)))) h.cx,h.map.same λo b=>a _ _ (.inr (.inr (.inr (.inr rfl)))) b⟩
theorem qq.I5(h:qq X cb bn bc tb mb v W){q:Nat}(a:q=bn\/q=bc\/q=tb\/q=X.cx\/q=mb):∃o,W.heap[q]? =some o/\I5 jU o:=by
 rcases a with rfl|rfl|rfl|rfl|rfl
 ·exact⟨_,h.bn,by exact⟨by decide,by decide⟩⟩
 ·exact⟨_,h.bc,by exact⟨by decide,by decide⟩⟩
 ·exact⟨_,h.tb,by exact⟨by decide,by decide⟩⟩
 ·exact⟨_,h.cx,by exact⟨by decide,by decide⟩⟩
 ·obtain⟨es,c,hm⟩:=h.map.obj;exact⟨_,hm,trivial⟩
theorem qq.Cb(h:qq X cb bn bc tb mb v W){r':Option Nat}{gv:Value}{ps:List Value}(c:ed jU W X.base X.gx g r gv ps)(hm:mR X.gx r r' W W'):qq X cb bn bc tb mb v W':=
 h.keep λq o d b=>by
  obtain⟨o',a,e⟩:=h.I5 d;rw[a]at b;cases b;exact hm.keep c a e
theorem qq.below(h:qq X cb bn bc tb mb v W)(a:Below W.heap.size W W'):qq X cb bn bc tb mb v W':=h.keep λq o _ b=>cY a b
theorem qq.set(h:qq X cb bn bc tb mb v W)(n:Int)(m:Nat){o:Obj}(hm:eu eT (W.putObj mb o) mb (λj=>if j=n then some (.int .i64 ((m:Nat):Int))else(look v j).map nV)):qq X cb bn bc tb mb ((n,m)::v) (W.putObj mb o):=by
 obtain⟨es,c,b⟩:=h.map.obj;have key:∀{q:Nat} {cur:Array Value} {t:TypeId},W.heap[q]? =some (.cells cur t (0,0))->(W.putObj mb o).heap[q]? =some (.cells cur t (0,0)):=λ{q cur t} a=>(aA λe=>by rw[e,b]at a;cases a).trans a;refine⟨key h.bn,key h.bc,key h.tb,key h.cx,hm.congr λj=> ?_⟩;rw[dn];by_cases e:j=n
 ·rw[aq e,aq e.symm];rfl
 ·rw[ah e,ah (λh=>e h.symm)]
end
section
variable {X:CX} {cb:Array Value} {bn bc tb mb:Nat} {v:En} {W:World} {g:Gr} {r:Option Nat} {gv:Value} {ps:List Value}
theorem MO(h:qq X cb bn bc tb mb v W)(f:cb[0]? =some (.pointer (some ⟨X.gx,0,none⟩)))(a:ed jU W X.base X.gx g r gv ps)(b:X.base<=W.heap.size)(i:g.length<=999999999)(n:Int):
 Calls Tryz.prog 111 #[.int .i64 n,.pointer (some ⟨tb,0,none⟩)] W λe W'=>e=.returned (.int .i64 (g.length:Nat))/\∃r' v',ed jU W' X.base X.gx (g++[⟨-1,n,[],none⟩]) r' v' (ps++[.slice none 0 0])/\mR X.gx r r' W W':=by
 have j:=hI (Dm a b (by omega) (-1) 4 n rfl (.slice none 0 0) [] ⟨none,0,rfl,lR,by decide,by decide,λh=>ay h (dy _)⟩);have c0:=cZ h.tb;have c1:W.cell? ⟨X.cx,0,none⟩=some (.pointer (some ⟨X.gx,0,none⟩)):=by rw[cell_of_row _ _ _ _ _ _ h.cx,f]
 have z0:=af c0;have k:=af c1;clear h a b i
 go_enter Tryz.func111,Tryz.ntmps111
 go_wp2_with fail
 refine j.o.mono ?_;rintro e l ⟨rfl,r',v',c,hm⟩;have d:=hI (show _/\_ from⟨c,hm⟩);clear c hm c0 c1 z0 k;go_wp2;go_ret;exact⟨rfl,r',v',d.o.1,d.o.2⟩
theorem MP(h:qq X cb bn bc tb mb v W)(G:cb[0]? =some (.pointer (some ⟨X.gx,0,none⟩)))(j:ed jU W X.base X.gx g r gv ps)(z:X.base<=W.heap.size)(A:g.length<=999999999)(n:Int):
 Calls Tryz.prog 166 #[.int .i64 n,.pointer (some ⟨bn,0,none⟩),.pointer (some ⟨bc,0,none⟩)] W λe W'=>e=.returned (.int .i64 ((iz g v n).2:Nat))/\∃r' i d,ed jU W' X.base X.gx (iz g v n).1.1 r' i d/\jy W ps d/\qq X cb bn bc tb mb (iz g v n).1.2 W'/\m_ (λq=>q=mb) X.gx r r' W W':=by
 have c0:=cZ h.bn;have c1:=cZ h.bc;have z0:=af c0;have H:=af c1;cases i:look v n with
 |some m=>
  have D:=h.map.Q0 (k:=n) (v:=nV m) (by rw[i];rfl);have B:Hd (iz g v n=((g,v),m)):=hI (by unfold iz;rw[i]);have l:=hI (show _/\_ from⟨h,j⟩);clear h j z A i
  go_enter Tryz.func166,Tryz.ntmps166
  go_wp2;go_ret;rw[B.o];exact⟨rfl,r,gv,ps,l.o.2,jy.refl _ _,l.o.1,m_.refl _ _ _ _⟩
 |none=>
  have D:=h.map.Q1 (k:=n) (by rw[i];rfl);have B:Hd (iz g v n=((g++[⟨-1,n,[],none⟩],(n,g.length)::v),g.length)):=hI (by unfold iz;rw[i]);have I:=hI (MO h G j z A n);have l:=hI (show _/\_ from⟨h,j⟩);have K:∀args w,(callFunc 111 args).run Tryz.prog w=.ok (.enter 111 args) w:=enters_of Tryz.func111 (by kernel_rfl) rfl;clear h j z A i
  go_enter Tryz.func166,Tryz.ntmps166
  go_wp2_with fail
  refine I.o.mono ?_;rintro e y ⟨rfl,r',v',p,hm⟩;clear c0 c1 z0 H D;have s:=l.o.1.Cb l.o.2 hm;obtain⟨o,J,E,_⟩:=run_set (T:=120) (et:=3) (P:=Tryz.prog) Tryz.underlying120 gU s.map n (.int .i64 ((g.length:Nat):Int));unfold eT at J;have c0:=cZ s.bn;have z0:=af c0;obtain⟨es,c,F⟩:=s.map.obj;have key:∀{q:Nat} {cur:Array Value} {t:TypeId} {f:Nat×Nat},y.heap[q]? =some (.cells cur t f)->(y.putObj mb o).heap[q]? =some (.cells cur t f):=λ{q cur t f} u=>(aA λe=>by rw[e,F]at u;cases u).trans u;have x:ed jU (y.putObj mb o) X.base X.gx (g++[⟨-1,n,[],none⟩]) r' v' (ps++[.slice none 0 0]):=p.js (Z:=λ_=>False) (λ_ _ _ _ _ _ _ C=>C) (λo' d=>by
   rw[p.fW]at d;cases d;exact key p.fW) (λq o' e d=>by
   obtain⟨cur,hc,_⟩:=p.ey e;rw[hc]at d;cases d;exact key hc) (λb cur f C _=>key C)
  have C:=hI (show _/\_/\_ from⟨x,s.set n g.length E,((hm.toX λq=>q=mb).trans (c:=y.putObj mb o) ⟨rfl,rfl,rfl,by simp,λq o' d _ _ u=>(aA u).trans d,.inl rfl⟩)⟩);clear p hm s E F key x;go_wp2;go_ret;rw[B.o];exact⟨rfl,r',v',_,C.o.1,jy.one λa n c e _=>(by cases e),C.o.2.1,C.o.2.2⟩
end
theorem cU.afL{r':Option Nat}{gv:Value}{ps:List Value}{uv:Value}{up:List Value}{mb:Nat}(h:cU X (λ_=>False) w S c r gv ps uv up)(hm:m_ (λq=>q=mb) X.gx r r' w w')(v:X.base<=mb/\mb≠X.ob/\mb≠X.eb/\∃es k,w.heap[mb]? =some (.map es k))
 {g':Gr} {l:Value} {m:List Value} (x:ed jU w' X.base X.gx g' r' l m):cU X (λ_=>False) w' { S with g:=g'} c r' l m uv up:=by
 obtain⟨i,y,z,es,k,A⟩:=v;have n:∀{b:Nat} {f:Int->Option Value},mb≠b->eu eT w b f->eu eT w' b f:=λ{b f} eC p=>p.same λo s=>by
  obtain⟨es,c,a⟩:=p.obj;rw[a]at s;cases s;exact hm.keep h.gr a trivial λe=>eC e.symm
 have j:∀(q:Nat) (cur:Array Value) (t:TypeId) (f:Nat×Nat),q=mb->w.heap[q]?≠some (.cells cur t f):=λq cur t f e a=>by rw[e,A]at a;cases a
 have u:=(hm.qU h.gr (by decide) (by decide) j).z λ_=>False;have d:Below X.B w w':=hm.toBelow (ai h.hB h.gr.base) (λq a=>by
  obtain⟨_,_,d⟩:=h.gr.ey a;exact ai h.hB d) (λq a=>by rw[a];exact ai h.hB i) (ai h.hB h.lt.2.2)
 exact⟨hm.keep h.gr h.fW ⟨by decide,by decide⟩ λe=>j _ _ _ _ e h.fW,x,n y h.own,n z h.env,h.us.keep h.sep.left.right (λq cur a=>hm.keep h.gr a ⟨by decide,by decide⟩ λe=>j _ _ _ _ e a) u,h.md.below d lR,h.ty.below d lR,
  h.kc.js h.sep.right u,λ_ _ _ _ _ _ _ B=>B,h.hB,h.xR,h.xe,h.SW,h.eC,λq a=>a.elim⟩
theorem afM{gv:Value}{ps:List Value}{uv:Value}{up:List Value}{cb:Array Value}{bn bc tb mb:Nat}{v:En}(h:cU X (λ_=>False) w S c r gv ps uv up)(o:qq X cb bn bc tb mb v w)(p:cb[0]? =some (.pointer (some ⟨X.gx,0,none⟩)))
 (d:X.base<=mb/\mb≠X.ob/\mb≠X.eb) {T:Nd} {tv:Value} (s:T.one.nr) (t:cV w X.B tv T) (u:S.g.length+T.size<=900000000):
 Calls Tryz.prog 73 #[.pointer (some ⟨X.gx,0,none⟩),tv,.func (.func 166) #[] #[.pointer (some ⟨bn,0,none⟩),.pointer (some ⟨bc,0,none⟩)]] w λe w'=>
  e=.returned (.int .i64 ((dO iz T.one S.g v).2.headD 0:Nat))/\(∃r' f i,cU X (λ_=>False) w' { S with g:=(dO iz T.one S.g v).1.1} c r' f i uv up)/\qq X cb bn bc tb mb (dO iz T.one S.g v).1.2 w'/\Below X.base w w':=by
 refine(Fm (V:=En) (vf:=iz) (P:=λ_=>True) (E:=λq=>q=mb) (D:=λq=>q=bn\/q=bc\/q=tb\/q=X.cx\/q=mb) (St:=λv W=>qq X cb bn bc tb mb v W) (base:=X.base) (x:=X.gx) (B:=X.B)
  (gf:=166) (caps:= #[.pointer (some ⟨bn,0,none⟩),.pointer (some ⟨bc,0,none⟩)]) (enters_of Tryz.func166 (by kernel_rfl) rfl) (λg v x=> ?_) h.hB (λq a=>.inr (.inr (.inr (.inr a)))) (λv W b q a=> ?_) (λv W b q a=>b.I5 a) (λv W W' b m=>b.keep m) (λg v n W r gv ps _ j l G b=>MP b p j l G n)
  T.size T S.g v tv w r gv ps lR t s (λ_ _=>trivial) h.gr h.lt.2.2 (by omega) o).mono ?_
 ·exact anU
 ·subst a;obtain⟨es,k,hm⟩:=b.map.obj;exact⟨ai h.hB d.1,es,k,hm⟩
 ·rintro e w' ⟨rfl,r',f,i,j,_,b,hm⟩;obtain⟨es,k,m⟩:=o.map.obj;exact⟨rfl,⟨r',f,i,h.afL hm ⟨d.1,d.2.1,d.2.2,es,k,m⟩ j⟩,b,hm.toBelow h.gr.base (λq a=>by
   obtain⟨_,_,l⟩:=h.gr.ey a;exact l) (λq a=>by rw[a];exact d.1) h.lt.2.2⟩
theorem PD(w:World)(fn:Fn)(a b:Array Value):Calls Tryz.prog 110 #[.func fn a b] w λe w'=>e=.returned (.func (.func 166) #[] #[.pointer (some ⟨w.heap.size+2,0,none⟩),.pointer (some ⟨w.heap.size,0,none⟩)])/\
 w'=((w.alloc (.cells #[.func fn a b] 113)).alloc (.map #[] 0)).alloc (.cells #[.map (some (w.heap.size+1))] 120):=by
 have c:= @run_makeMap Tryz.prog;have d:∀(fn:Fn) (first cap:Array Value) (w:World),(Instr.makeFunc fn first cap).run Tryz.prog w=.ok (.func fn first cap) w:=λ_ _ _ _=>rfl
 go_enter Tryz.func110,Tryz.ntmps110
 go_wp2;go_ret;exact⟨rfl,rfl⟩
theorem Yg(r:oN)(S:Ck):OQ true X.C r S=(match X.body S.env r 0 S with|none=>none|some (S2,_)=>match eX S2.g with|none=>none|some _=>some { S2 with env:=S.env}):=by
 unfold OQ;show(match tQ [] (X.ks r.bT) (X.one r.rhs) true r.fn 0 { S with env:=S.env} with|none=>none|some (a,_)=>match eX a.g with|none=>none|some _=>some a)=_;rw[yL];cases X.body S.env r 0 S with
 |none=>rfl
 |some z=>rfl
def ak2(X:CX)(w:World)(r:Option Ck)(e:Ending)(w':World):Prop:=Below X.base w w'/\(∀(q:Nat) (cur:Array Value),w.heap[q]? =some (.cells cur 4 (0,0))->w'.heap[q]? =some (.cells cur 4 (0,0)))/\match r with
 |none=>e=.panicked [{ v:=m9,recovered:=false}]
 |some _=>e=.returned (.tuple #[])
theorem MQ(x:Ds X){r:oN}(hp:jb X r.bT)(A:jb X r.rhs.one)(h:dm X (λ_=>False) w S 0)(I:∀y,0<=y->look S.env y=none)(B:iA X S)(C:X.C.own r.fn=true)(D:Room S 0 (r.bT.size+r.rhs.size))
 {tb qb:Nat} {F a4:Value} (k:w.heap[tb]? =some (.cells #[.pointer (some ⟨X.cx,0,none⟩)] 147 (0,0))) (a:w.heap[qb]? =some (.cells #[.int .i64 r.fn,F,.int .i64 r.rhs.a,.int .i64 r.rhs.n,a4,.int .i64 r.vars] 139 (0,0))) (o:dr w X.B F r.bT) (b:dr w X.B a4 r.rhs.k):
 Calls Tryz.prog 113 #[.pointer (some ⟨tb,0,none⟩),.pointer (some ⟨qb,0,none⟩)] w (ak2 X w (OQ true X.C r S)):=by
 obtain⟨p,f,s⟩:=h_3 (Q9 x hp A (E:=S.env) h I (λy _=>rfl) B C D ⟨F,a4,rfl,o,b⟩) (λS2 u=>Im x hp A (S:=S) (E:=S.env) (S2:=S2) (u:=u) (c:=0) B C) (Yg (X:=X) r S);obtain⟨p1,c1,rfl⟩:=o.slice;obtain⟨p4,c4,rfl⟩:=b.slice;have x0:=cZ k;have G:=cZ a;have r1:=eY a;have r2:=fu a;have J:=xk a;have K:=Za a;have L:=cr5 a;have m:=af x0;have M:=af G;have i:({ S with env:=S.env}:Ck)=S:=rfl;have d:S.g.length+1000*(r.bT.size+r.rhs.size)<=900000000:=D.1;have Q:=hI d;have R:=hI k;obtain⟨rr,gv,ps,uv,up,g⟩:=h;have n:=hI g;generalize OQ true X.C r S=FR at s |-;clear hp A I B C D k a o b i d g x
 go_enter Tryz.func113,Tryz.ntmps113
 cases g:X.body S.env r 0 S with
 |none=>
  rw[g]at p;have a:=s.o;rw[g]at a;subst a;clear g f
  go_wp2_with fail
  refine p.o.mono ?_;rintro e i ⟨d,rfl⟩;have j:=hI (show Below X.base w i/\∀(q:Nat) (cur:Array Value),w.heap[q]? =some (.cells cur 4 (0,0))->i.heap[q]? =some (.cells cur 4 (0,0))from⟨n.o.low d lR,λq cur b=>n.o.stays d b (by decide) (by decide) (by unfold Ic;decide)⟩);clear d x0 G r1 r2 J K L m M;go_wp2;exact⟨rfl,j.o.1,j.o.2,rfl⟩
 |some z=>
  obtain⟨S2,u⟩:=z;have k:=f.o S2 u g;rw[g]at p;have a:=s.o;rw[g]at a;have t:=hI a;have T:=hI k.1;have hlen:S2.g.length<=S.g.length+1000*(r.bT.size+r.rhs.size):=k.2.1.len;have H:Hd (S2.g.length<=900000000):=hI (by have:=Q.o;omega);clear g a k hlen s f
  go_wp2_with fail
  refine p.o.mono ?_;rintro e i ⟨d,rfl,q,b,U⟩;obtain⟨V,W,Zp,Y,Z,o⟩:=U;have j:=hI (show Below X.base w i/\∀(q:Nat) (cur:Array Value),w.heap[q]? =some (.cells cur 4 (0,0))->i.heap[q]? =some (.cells cur 4 (0,0))from⟨n.o.low d lR,λq cur b=>n.o.stays d b (by decide) (by decide) (by unfold Ic;decide)⟩);have k:=n.o.stays d R.o (by decide) (by decide) (by unfold Ic;decide);have v:=hI (s_ o.gr T.o.ok.low.good.wf (ai H.o (by decide)));have N:X.base<=i.heap.size:=o.lt.2.2;have O:=hI N;clear x0 G r1 r2 J K L m M;have x0:=cZ k;have x1:i.cell? ⟨X.cx,0,none⟩=some (.pointer (some ⟨X.gx,0,none⟩)):=o.at.c0;have m:=af x0;have P:=af x1;clear d b o k N;cases l:eX S2.g with
  |none=>
   have a:=t.o;rw[l]at v;simp only[l]at a;subst a;clear l t
   go_wp2_with fail
   refine v.o.mono ?_;rintro e N ⟨rfl,k⟩;have o:=hI (show _/\_ from⟨j.o.1.trans (k.mono O.o),fun(q:Nat) (cur:Array Value) (b:w.heap[q]? =some (.cells cur 4 (0,0)))=>cY k (j.o.2 q cur b)⟩);clear k x0 x1 m P;go_wp2;exact⟨rfl,o.o.1,o.o.2,rfl⟩
  |some st=>
   have a:=t.o;rw[l]at v;simp only[l]at a;subst a;clear l t
   go_wp2_with fail
   refine v.o.mono ?_;rintro e N ⟨rfl,k⟩;have o:=hI (show _/\_ from⟨j.o.1.trans (k.mono O.o),fun(q:Nat) (cur:Array Value) (b:w.heap[q]? =some (.cells cur 4 (0,0)))=>cY k (j.o.2 q cur b)⟩);clear k x0 x1 m P;go_wp2
   go_end0
   exact⟨o.o.1,o.o.2,rfl⟩
end
section
theorem PE{C:Kn}{s:Sg}{p:Int->Prop}:∀{F:Fo},cK s F=true->(∀f:Nat,f<s.bj.length->F.calls f=true->p f)->F.lets/\F.fns λf=>0<=f/\p f
 | .nil,_,_=>⟨trivial,trivial⟩
 | .cons a n k r,b,hc=>by
  unfold cK at b;simp only[ak]at b;have g:=PE (C:=C) (F:=k) b.1.2 λf d e=>hc f d (by unfold Fo.calls;rw[e];simp);have i:=PE (C:=C) (F:=r) b.2 λf d e=>hc f d (by unfold Fo.calls;rw[e];simp);refine⟨⟨λc=>wj b.1.1 c,g.1,i.1⟩,⟨λc=> ?_,g.2,i.2⟩⟩;obtain⟨j,l⟩:=mV b.1.1 c;refine⟨j,?_⟩;obtain⟨f,rfl⟩:∃f:Nat,n=f:=⟨n.toNat,by omega⟩;refine hc f (by omega) ?_;unfold Fo.calls;rcases c with rfl|rfl<;>simp
end
section
open Go Go.RowKit Go.Sort
attribute [local go_sem] aT cW df nV uV
abbrev afN:Oper:=⟨some 54,.load 147 (.tmp 10),147,ej,#[],none⟩
abbrev afO:Oper:=⟨some 55,.nilCheck (.tmp 54),0,ej,#[aj 0],none⟩
abbrev afP:Oper:=⟨some 56,.fieldAddr 152 (.tmp 55) 4,0,ej,#[aj 1],none⟩
abbrev afQ:Oper:=⟨some 57,.load 120 (.tmp 56),120,ej,#[aj 2],none⟩
abbrev afR:Oper:=⟨some 58,.move (.tmp 14),3,ej,#[],none⟩
abbrev afS:Oper:=⟨some 59,.load 147 (.tmp 10),147,ej,#[],none⟩
abbrev afT:Oper:=⟨some 60,.nilCheck (.tmp 59),0,ej,#[aj 5],none⟩
abbrev afU:Oper:=⟨some 61,.fieldAddr 152 (.tmp 60) 0,0,ej,#[aj 6],none⟩
abbrev afV:Oper:=⟨some 62,.load 107 (.tmp 61),107,ej,#[aj 7],none⟩
abbrev afW:Oper:=⟨some 63,.call ⟨.value (.func 71),#[.tmp 62],#[107]⟩,3,ej,#[aj 8],none⟩
abbrev abz:Oper:=⟨none,.mapUpdate 120 (.tmp 57) (.tmp 58) (.tmp 63),0,ej,#[aj 3,aj 4,aj 9,ao 9,al 0,al 1,al 2,al 3,al 4,al 5,al 6,al 7,al 8,al 9],none⟩
def Rj:Array Oper:= #[afN,afO,afP,afQ,afR,afS,afT,afU,afV,afW,abz]
theorem JS{s:Sg}:∀{F:Fo} {c:Bool} {n:Int} {i:Nat} {x:Int},cK s F=true->wW c n i F x=true->0<=x/\x<20
 | .nil,_,_,_,_,_,h=>by cases h
 | .cons a m k r,c,n,i,x,b,h=>by
  unfold cK at b;simp only[ak]at b;have h:(((if a=1 then x==m else wW (a==8) m 0 k x)&& !(c&&i==1&&x==n))||wW c n (i+1) r x)=true:=h;rw[b7,ak]at h;rcases h with⟨h,_⟩|h
  ·by_cases d:a=1
   ·rw[aq d]at h;have f:x=m:=by simpa using h
    have e:=b.1.1;unfold cS at e;rw[aq d]at e;simp[fX]at e;omega
   ·rw[ah d]at h;exact JS b.1.2 h
  ·exact JS b.2 h
theorem MR{s:Sg}{t:Nd}(a:cK s t.one=true):∀x∈cC t,0<=x/\x<20:=λx b=>by
 have h:=((lC t).2 x).1 b;refine JS (F:=t.one) (c:=false) (n:=0) (i:=0) a ?_;show(((if t.a=1 then x==t.n else wW (t.a==8) t.n 0 t.k x)&& !(false&&(0:Nat)==1&&x==0))||wW false 0 1 .nil x)=true;unfold Dq at h;rw[h];rfl
theorem abA{l:List Int}(h:∀x∈l,0<=x):cX (l.map Int.toNat)=l:=by
 unfold cX;rw[List.map_map]
 conv=>rhs;rw[<-List.map_id l]
 exact List.map_congr_left λx a=>by have:=h x a;show((x.toNat:Nat):Int)=x;omega
theorem tH{ds:List fV}:∀{F:Fo},F.qok (Qd ds)->F.nr
 | .nil,_=>trivial
 | .cons a n k r,h=>by
  refine⟨?_,tH h.2.1,tH h.2.2⟩;by_cases b:a=1
  ·exact .inl b
  ·have:=(h.1 b).2;unfold dA at this;rw[ah b]at this;by_cases c:a=2
   ·exact .inr (.inl c)
   ·rw[ah c]at this;by_cases d:a=3
    ·exact .inr (.inr (.inl d))
    ·rw[ah d]at this;by_cases e:a=4
     ·exact .inr (.inr (.inr e))
     ·rw[ah e]at this;cases this
theorem BH:∀(l:List Int) {S:Ck},(∀n∈l,0<=n)->nu S (je l S) l.length
 |[],S,_=>nu.refl S 0
 |n::l,S,h=>by
  have a:=QU S (h n aO);have b:=BH l (S:=(me S n).1) λx c=>h x (aS _ c);exact a.trans b (by rw[aD];omega)
theorem Rk:∀(l:List Int) {S:Ck},xU S->dY S (je l S)/\(je l S).us=S.us
 |[],_,h=>⟨dY.refl h,rfl⟩
 |n::l,S,h=>by
  obtain⟨a,_⟩:=ahP h n;obtain⟨b,c⟩:=Rk l a.low;exact⟨a.trans b,c.trans (by unfold me;split<;>rfl)⟩
theorem MS{P:Bool}:∀(gs:List (List Nat)) (types:List Nd) {L:List Nd},OM P m gs types=.ok L->L.length=types.length
 |[],_,_,h=>by cases h;rfl
 |l::gs,types,L,h=>by
  unfold OM at h;cases e:oe P m types (cX l)with
  |rp=>rw[e]at h;cases h
  |px=>rw[e]at h;cases h
  |ok ts=>
   rw[e]at h;exact(MS gs _ h).trans (Fg _ _ _)
theorem FG:∀(l:List Int) (n:Int) (S:Ck),je (l++[n]) S=(me (je l S) n).1
 |[],_,_=>rfl
 |x::l,n,S=>FG l n (me S x).1
theorem IC:∀(l:List Int) {S:Ck} {y:Int} {m:Nat},look (je l S).env y=some m->(∃m,look S.env y=some m)\/y∈l
 |[],_,_,_,h=>.inl ⟨_,h⟩
 |n::l,S,y,m,h=>by
  rcases IC l (S:=(me S n).1) h with⟨a,h⟩|h
  ·unfold me at h;cases e:look S.env n with
   |some k=>rw[e]at h;exact .inl ⟨_,h⟩
   |none=>
    rw[e]at h;have h:look ((n,S.g.length)::S.env) y=some a:=h;rw[dn]at h
    split at h
    ·rename_i hy;exact .inr (by rw[hy];exact aO)
    ·exact .inl ⟨_,h⟩
  ·exact .inr (aS _ h)
theorem TE(l:List Int)(h:∀n∈l,0<=n):(je l S).g.length<=S.g.length+l.length:=(BH l h).len
def ajf(w:World)(t:Nd)(r:Option (Ck×Nat))(e:Ending)(w':World):Prop:=match r with
 |none=>e=.returned (.tuple #[.pointer none,.slice none 0 0,.int .i64 7])
 |some (S,n)=>∃(X:CX) (c:Nat) (nv:Value),e=.returned (.tuple #[.pointer (some ⟨X.cx,0,none⟩),nv,.int .i64 0])/\w.heap.size<=X.base/\dm X (λ_=>False) w' S c/\iA X S/\S.g.length<=900000000/\S.us.length<=900000000/\jq kF S.g/\(∀k∈n::(cC t).map (ur S),k<S.g.length)/\dw w' nv (n::(cC t).map (ur S))
theorem afX{types:List Nd}{t:Nd}(hm:iy m=true)(o:dq m.prog.sig t=true)(he:vC true m=.ok types)(e:∀j,j<types.length->(types[j]?.getD default).ok/\(types[j]?.getD default).QS)(q:t.one.low=true)(c:X.m=m)(g:X.types=types)(k:X.l=[])(r:t.size<=100000):
 Ds X/\jb X t.one/\X.C=kn m types []/\iA X (je (cC t) gX)/\jq kF (je (cC t) gX).g/\Room (je (cC t) gX) 0 t.size:=by
 have s:types.length=m.prog.sig.bj.length:=(MS _ _ he).trans (by simp);have hC:X.C=kn m types []:=by unfold CX.C;rw[c,g,k]
 have u:Ds X:=Pp (by rw[c];exact hm) (by rw[c,g];exact s);have b:=kD o;have v:=MR b;have l:∀f:Nat,f<m.prog.sig.bj.length->(lf X.C (f:Int)).ok/\(lf X.C (f:Int)).QS:=λf a=>by
  rw[hC];exact e f (by omega)
 have a:=PE (C:=X.C) (p:=λf=>A5 X.C f/\CZ X.C f) b λf a _=>⟨.inr (l f a).1,.inr (l f a)⟩;have d:=BH (cC t) (S:=gX) λn w=>(v n w).1;obtain⟨x,y⟩:=Rk (cC t) rN;refine⟨u,⟨by rw[c];exact b,Fo.pw (λ_ h=>h.2.1) _ a.2,Fo.pw (λ_ h=>h.2.2) _ a.2,q⟩,hC,⟨⟨x.low,λf a=> ?_⟩,d.wV wV (by unfold wV;omega) (by unfold wV;omega) (by unfold wV;omega) (by unfold wV;omega) λi hi=>ay hi (ax _),λf z _=> ?_⟩,d.wV kF (by unfold kF;omega) (by unfold kF;omega) (by unfold kF;omega) (by unfold kF;omega) λi hi=>ay hi (ax _),?_,?_,?_⟩
 ·have:X.l.contains f=true:=a;rw[k]at this;cases this
 ·rw[d.neg _ (by omega)];rfl
 ·have c:=d.len;have g:=iL t;have:gX.g.length=0:=rfl;omega
 ·rw[y];show 0+_<=_;omega
 ·omega
end
section
theorem Yh{done:Nat->Bool}{gs:List (List Nat)}(h:tP R n done gs):(∀l∈gs,∀f∈l,done f=false)/\∀i b f,i<gs.length->b<gs.length->f∈AP gs i->f∈AP gs b->i=b:=by
 induction h with
 |nil _=>exact⟨λl a=>(by cases a),λi _ _ hi=>ay hi (ax _)⟩
 | @cons done l gs q eC p r _ m=>
  have key:∀c∈gs,∀f∈c,done f=false/\f ∉ l:=λc d f a=>by
   have:=m.1 c d f a;simp only[Bool.or_eq_false_iff]at this;refine⟨this.1,λhm=> ?_⟩;rw[bh.2 hm]at this;exact ay this.2 (by decide)
  have e:∀i,i<gs.length->AP gs i∈gs:=λi hi=>by unfold AP;rw[ae hi];exact aR _
  refine⟨λc d f a=> ?_,λi b f hi o a g=> ?_⟩
  ·rcases aE.1 d with rfl|d
   ·exact(p f a).2
   ·exact(key c d f a).1
  ·cases i with
   |zero=>
    cases b with
    |zero=>rfl
    |succ j=>exact ay a ((key _ (e j (by simpa using o)) f g).2)
   |succ k=>
    cases b with
    |zero=>exact ay g ((key _ (e k (by simpa using hi)) f a).2)
    |succ j=>rw[m.2 k j f (by simpa using hi) (by simpa using o) a g]
theorem MU(g:Gr)(v:En)(x:Int):(iz g v x).1.1.length<=g.length+1:=by
 exact anU
theorem Yi(v:En)(x:Int)(h:jq wV g):jq wV (iz g v x).1.1:=by
 unfold iz;cases look v x with
 |some m=>exact h
 |none=>exact h.add (.inl rfl) (aw _)
theorem DF:∀(F:Fo) (g:Gr) (v:En),F.nr->F.size<=1000->jq wV g->jq wV (dO iz F g v).1.1
 | .nil,_,_,_,_,h=>h
 | .cons a n k r,g,v,b,d,h=>by
  unfold Fo.nr at b;unfold Fo.size at d;rw[p8];by_cases c:a=1
  ·rw[aq c];exact DF r _ _ b.2.2 (by omega) (Yi v n h)
  ·rw[ah c];refine DF r _ _ b.2.2 (by omega) ((DF k g v b.2.1 (by omega) h).add ?_ (by show(dO iz k g v).2.length<=1000;rw[wD];have:=k.nE;omega));rcases b.1 with e|e|e|e
   ·exact ay e c
   ·exact .inr (.inr (.inl e))
   ·exact .inr (.inr (.inr (.inl e)))
   ·exact .inr (.inr (.inr (.inr e)))
theorem ID{ty:Int->Nd}:∀(l:List Int) (S:Ck) (v:En),(∀f∈l,(ty f).one.nr/\(ty f).size<=20)->jq wV S.g->jq wV (rZ iz ty l S v).1.g/\(rZ iz ty l S v).1.g.length<=S.g.length+20*l.length/\(rZ iz ty l S v).1.us=S.us
 |[],_,_,_,h=>⟨h,gz _ _,rfl⟩
 |f::l,S,v,a,h=>by
  obtain⟨t1,t2⟩:=a f aO;have b:=DF (ty f).one S.g v t1 (by rw[Nd.jr];omega) h;have c:=mC MU (ty f).one S.g v;rw[Nd.jr]at c;obtain⟨d,a2,a3⟩:=ID l ⟨(dO iz (ty f).one S.g v).1.1,(-1-f,(dO iz (ty f).one S.g v).2.headD 0)::S.env,S.us⟩ (dO iz (ty f).one S.g v).1.2 (λe g=>a e (aS _ g)) b;have a2:(rZ iz ty (f::l) S v).1.g.length<=(dO iz (ty f).one S.g v).1.1.length+20*l.length:=a2;refine⟨d,?_,a3⟩;rw[aD];omega
theorem abB{V:Type}{MV:V->Int->Option Nat}{vf:Gr->V->Int->(Gr×V)×Nat}(b:∀g v x,Good g->(∀y m,MV v y=some m->m<g.length)->Good (vf g v x).1.1/\g.length<=(vf g v x).1.1.length/\(∀y m,MV (vf g v x).1.2 y=some m->m<(vf g v x).1.1.length)/\(vf g v x).2<(vf g v x).1.1.length):
 ∀(F:Fo) {g:Gr} {v:V},Good g->(∀y m,MV v y=some m->m<g.length)->F.jL->Good (dO vf F g v).1.1/\g.length<=(dO vf F g v).1.1.length/\(∀y m,MV (dO vf F g v).1.2 y=some m->m<(dO vf F g v).1.1.length)/\∀p∈(dO vf F g v).2,p<(dO vf F g v).1.1.length
 | .nil,_,_,h,c,_=>⟨h,lR,c,λp hp=>by cases hp⟩
 | .cons a n k r,g,v,h,c,d=>by
  rw[p8];by_cases i:a=1
  ·simp only[aq i];obtain⟨g1,o,v1,j⟩:=b g v n h c;obtain⟨g2,f,v2,l⟩:=abB b r g1 v1 d.2.2;refine⟨g2,ai o f,v2,λp hp=> ?_⟩;rcases aE.1 hp with rfl|hp
   ·exact aC j f
   ·exact l p hp
  ·simp only[ah i];obtain⟨g1,o,v1,j⟩:=abB b k h c d.2.1;have q:dQ ⟨a,n,(dO vf k g v).2,none⟩=false:=by unfold dQ;simpa using d.1
   obtain⟨g2,f,v2,l⟩:=abB b r (g:=(dO vf k g v).1.1++[⟨a,n,(dO vf k g v).2,none⟩]) (v:=(dO vf k g v).1.2) (g1.add rfl j (λe=>by rw[q]at e;cases e) i) (λy m e=>by rw[dS];have:=v1 y m e;omega) d.2.2;rw[dS]at f;refine⟨g2,by omega,v2,λp hp=> ?_⟩;rcases aE.1 hp with rfl|hp
   ·omega
   ·exact l p hp
theorem Yj{ty:Int->Nd}:∀(l:List Int) {S:Ck} {v:En},xU S->(∀y m,look v y=some m->m<S.g.length)->(∀f∈l,(ty f).ok)->
 xU (rZ iz ty l S v).1/\∀y,(∃m,look (rZ iz ty l S v).1.env y=some m)↔(∃m,look S.env y=some m)\/∃f∈l,y= -1-f
 |[],S,v,h,_,_=>⟨h,λy=>⟨.inl,λh=>h.resolve_right fun⟨f,c,_⟩=>by cases c⟩⟩
 |f::l,S,v,h,p,i=>by
  obtain⟨g1,j,v1,q⟩:=abB (vf:=iz) (MV:=look) (λg v x o d=>by
   unfold iz;cases e:look v x with
   |some m=>exact⟨o,lR,d,d x m e⟩
   |none=>
    refine⟨aaO o x,by show g.length<=(g++[_]).length;rw[dS];omega,λy m hy=> ?_,by show g.length<(g++[_]).length;rw[dS];omega⟩;show m<(g++[_]).length;have hy:look ((x,g.length)::v) y=some m:=hy;rw[dn]at hy;rw[dS]
    split at hy
    ·cases hy;omega
    ·have:=d y m hy;omega) (ty f).one h.good p (i f aO).jL
  obtain⟨m,hm⟩:=C5 iz (ty f) S.g v;have r:=q m (by rw[hm];exact aJ.2 rfl);obtain⟨a,k⟩:=Yj (ty:=ty) l (S:=⟨(dO iz (ty f).one S.g v).1.1,(-1-f,(dO iz (ty f).one S.g v).2.headD 0)::S.env,S.us⟩) (v:=(dO iz (ty f).one S.g v).1.2) ⟨g1,λy n e=>by
   have e:look ((-1-f,(dO iz (ty f).one S.g v).2.headD 0)::S.env) y=some n:=e;rw[dn,hm]at e
   split at e
   ·cases e;exact r
   ·exact aC (h.env y n e) j,λu hu m hm=>aC (h.us u hu m hm) j⟩ v1 (λf c=>i f (aS _ c))
  refine⟨a,λy=>(k y).trans ?_⟩;show(∃n,look ((-1-f,(dO iz (ty f).one S.g v).2.headD 0)::S.env) y=some n)\/_↔_;rw[dn];by_cases e: -1-f=y
  ·rw[aq e];exact⟨λ_=>.inr ⟨f,aO,e.symm⟩,λ_=>.inl ⟨_,rfl⟩⟩
  ·rw[ah e];refine or_congr Iff.rfl ⟨fun⟨x,b,hy⟩=>⟨x,aS _ b,hy⟩,fun⟨x,b,hy⟩=> ?_⟩;rcases aE.1 b with rfl|b
   ·exact ay hy.symm e
   ·exact⟨x,b,hy⟩
theorem abC(q:X.l.Nodup)(g:∀f∈X.l,0<=f)(j:∀f∈X.l,(lf X.C f).ok/\(lf X.C f).one.nr/\(lf X.C f).size<=20):iA X (Aw true X.C X.l)/\(∀y,0<=y->look (Aw true X.C X.l).env y=none)/\(Aw true X.C X.l).g.length<=20*X.l.length/\(Aw true X.C X.l).us=[]:=by
 have e:Aw true X.C X.l=(rZ iz (lf X.C) X.l gX []).1:=by unfold Aw;rw[aq rfl]
 obtain⟨p,k⟩:=Yj (ty:=lf X.C) X.l (S:=gX) (v:=[]) rN (λy m e=>by cases e) λf a=>(j f a).1;obtain⟨l,a2,a3⟩:=ID (ty:=lf X.C) X.l gX [] (λf a=>(j f a).2) λi hi=>ay hi (ax _);rw[<-e]at p k l a2 a3;have c:∀f,X.C.own f=true↔f∈X.l:=λf=>bh;have n:∀y,(¬∃f∈X.l,y= -1-f)->look (Aw true X.C X.l).env y=none:=λy hy=>by
  cases b:look (Aw true X.C X.l).env y with
  |none=>rfl
  |some m=>exact ay (((k y).1 ⟨m,b⟩).resolve_left fun⟨m,hm⟩=>(by cases hm)) hy
 refine⟨⟨⟨p,λf a=>⟨g f ((c f).1 a),(k _).2 (.inr ⟨f,(c f).1 a,rfl⟩)⟩⟩,l,λf b a=>n _ ?_⟩,λy hy=>n y ?_,by have:gX.g.length=0:=rfl;omega,a3⟩
 ·rintro⟨d,b,o⟩;have:f=d:=by omega
  rw[<-this]at b;rw[(c f).2 b]at a;cases a
 ·rintro⟨d,b,o⟩;have:=g d b;omega
theorem abD(m:Md)(types:List Nd):XW true m types=m.prog.rules.findIdx? λr=> !Mw true m types (np (eA m.prog) r.fn) r:=rfl
theorem JT{α:Type}[Inhabited α]{p:α->Bool}{l:List α}(h:∀j,j<l.length->p (l[j]?.getD default)=false):l.findIdx? p=none:=by
 rw[List.findIdx?_eq_none_iff];intro x b;obtain⟨j,a,e⟩:=bC.1 b;have:=h j a;rw[ae a]at this;rw[<-e];exact this
theorem JU{α:Type}[Inhabited α]{p:α->Bool}{l:List α}(a:k<l.length)(h:∀j,j<k->p (l[j]?.getD default)=false)(hp:p (l[k]?.getD default)=true):l.findIdx? p=some k:=by
 rw[List.findIdx?_eq_some_iff_getElem];rw[ae a]at hp;refine⟨a,hp,λj b=> ?_⟩;have:=h j b;rw[ae (by omega)]at this;rw[show l[j]=(some l[j]).getD default from rfl,this];decide
end
section
open Go Go.RowKit Go.Sort
attribute [local go_sem] aT cW df nV uV
def BI(gs:List (List Nat))(vals:List Value)(W:World)(a k j:Nat):Prop:=∃fn:Int->Option Value,eu eT W a fn/\∀i f,i<gs.length->f∈AP gs i->(i<k\/(i=k/\f∈(AP gs k).take j))->fn ((f:Nat):Int)=some (vals[i]?.getD undef)
theorem BI.same{gs:List (List Nat)}{vals:List Value}{a:Nat}(h:BI gs vals W a k j)(b:∀o,W.heap[a]? =some o->W'.heap[a]? =some o):BI gs vals W' a k j:=let⟨fn,c,d⟩:=h;⟨fn,c.same b,d⟩
theorem BI.next{gs:List (List Nat)}{vals:List Value}{a:Nat}(h:BI gs vals W a k j)(c:(AP gs k).length<=j):BI gs vals W a (k+1) 0:=by
 obtain⟨fn,d,g⟩:=h;refine⟨fn,d,λi f hi b hc=>g i f hi b ?_⟩;rcases hc with hc|⟨_,hc⟩
 ·by_cases e:i=k
  ·subst e;exact .inr ⟨rfl,by rw[List.take_of_length_le c];exact b⟩
  ·exact .inl (by omega)
 ·simp at hc
theorem BI.set{gs:List (List Nat)}{vals:List Value}{b f:Nat}{T:TypeId}(l:tP R n (λ_=>false) gs)(h:BI gs vals W b k j)(m:k<gs.length)(d:(AP gs k)[j]? =some f)(p:vals[k]?.getD undef=v)(q:Tryz.prog.underlying T=some (.map 3 74)):
 ∃o,(Instr.mapUpdate T (.map (some b)) (.int .i64 (f:Nat)) v).run Tryz.prog W=.ok () (W.putObj b o)/\BI gs vals (W.putObj b o) b k (j+1):=by
 obtain⟨fn,r,s⟩:=h;obtain⟨o,t,hm,_⟩:=run_set (T:=T) (et:=74) (P:=Tryz.prog) q gU r ((f:Nat):Int) v;refine⟨o,t,_,hm,λi c hi g hc=> ?_⟩;have u:f∈AP gs k:=List.mem_of_getElem? d;by_cases e:((c:Nat):Int)=((f:Nat):Int)
 ·rw[aq e];obtain rfl:c=f:=by omega
  rw[(Yh l).2 i k c hi m g u,p]
 ·rw[ah e];refine s i c hi g (hc.imp id fun⟨w,a⟩=>⟨w,?_⟩);obtain⟨x,y⟩:=cL.1 d;rw[aV x]at a;rcases aQ.1 a with a|a
  ·exact a
  ·rw[aJ.1 a,y]at e;exact ay rfl e
theorem jR.keep{base:Nat}{ov:Value}{gs:List (List Nat)}{vals:List Value}(h:jR base W ov gs vals)(a:∀(q:Nat) (cur:Array Value) (t:TypeId) (f:Nat×Nat),W.heap[q]? =some (.cells cur t f)->W'.heap[q]? =some (.cells cur t f)):jR base W' ov gs vals:=
 ⟨h.len,⟨h.own.1,h.own.2.imp id fun⟨g,cap,cur,e,c,d,rest⟩=>⟨g,cap,cur,e,c,a _ _ _ _ d,rest⟩⟩,λi hi=>(h.parts i hi).keep λb cur f j=>a _ _ _ _ j⟩
theorem jR.ajh{base:Nat}{ov:Value}{gs:List (List Nat)}{vals:List Value}(h:jR base W ov gs vals)(hk:k<gs.length):
 ∃b cap p a,ov=.slice (some ⟨b,0,none⟩) gs.length cap/\b<W.heap.size/\W.cell? ⟨b,k,none⟩=some (.slice p (AP gs k).length a)/\dw W (.slice p (AP gs k).length a) (AP gs k)/\vals[k]?.getD undef=.slice p (AP gs k).length a:=by
 rcases h.own.2 with⟨_,e⟩|⟨g,cap,cur,rfl,c,h3,d,f,i,h7⟩
 ·omega
 ·have hp:=h.parts k hk;obtain⟨p,a,e⟩:=hp.slice;refine⟨g,cap,p,a,rfl,(gE h3).1,?_,by rw[<-e];exact hp,e⟩;exact anj
theorem dw.cellAt{p:Option Addr}{l:List Nat}(h:dw W (.slice p l.length c) l){f:Nat}(b:l[j]? =some f):∃nb no,p=some ⟨nb,no,none⟩/\nb<W.heap.size/\W.cell? ⟨nb,no+j,none⟩=some (.int .i64 (f:Nat)):=by
 obtain⟨k,_⟩:=cL.1 b;have a:=h.ints;unfold Ints at a;rw[eP]at a;obtain⟨_,m,n,he,_,_,d⟩:=a;obtain⟨nb,no,e,g,i⟩:=d (by omega);cases he;refine⟨nb,no,e,g,?_⟩;rw[i j (by omega)];show some (Value.int .i64 (cN (cX l) j))=_;rw[ky,b];rfl
def Rl(w:World)(ok:Bool)(r:Option Nat)(e:Ending)(w':World):Prop:=Below w.heap.size w w'/\match ok,r with
 |false,_=>e=.returned (.tuple #[.int .i64 0,.int .i64 2])
 |true,none=>e=.returned (.tuple #[.int .i64 0,.int .i64 0])
 |true,some i=>e=.returned (.tuple #[.int .i64 (i:Nat),.int .i64 7])
abbrev afY:Oper:=⟨some 69,.load 147 (.tmp 13),147,ev,#[],none⟩
abbrev afZ:Oper:=⟨some 70,.nilCheck (.tmp 69),0,ev,#[aj 0],none⟩
abbrev af0:Oper:=⟨some 71,.fieldAddr 152 (.tmp 70) 3,0,ev,#[aj 1],none⟩
abbrev af1:Oper:=⟨some 72,.load 120 (.tmp 71),120,ev,#[aj 2],none⟩
abbrev af2:Oper:=⟨some 73,.move (.tmp 16),3,ev,#[],none⟩
abbrev af3:Oper:=⟨some 74,.load 147 (.tmp 13),147,ev,#[],none⟩
abbrev af4:Oper:=⟨some 75,.nilCheck (.tmp 74),0,ev,#[aj 5],none⟩
abbrev af5:Oper:=⟨some 76,.fieldAddr 152 (.tmp 75) 0,0,ev,#[aj 6],none⟩
abbrev af6:Oper:=⟨some 77,.load 107 (.tmp 76),107,ev,#[aj 7],none⟩
abbrev af7:Oper:=⟨some 78,.move (.tmp 1),24,ev,#[],none⟩
abbrev abE:Oper:=⟨some 79,.move (.tmp 16),3,ev,#[],none⟩
abbrev abF:Oper:=⟨some 80,.indexAddr 24 (.tmp 78) (.tmp 79),0,ev,#[aj 9,aj 10],none⟩
abbrev abG:Oper:=⟨some 81,.load 26 (.tmp 80),26,ev,#[aj 11],none⟩
abbrev abH:Oper:=⟨some 82,.move (.tmp 14),113,ev,#[],none⟩
abbrev abI:Oper:=⟨some 83,.call ⟨.value (.func 73),#[.tmp 77,.tmp 81,.tmp 82],#[107,26,113]⟩,3,ev,#[aj 8,aj 12,aj 13],none⟩
abbrev abJ:Oper:=⟨none,.mapUpdate 120 (.tmp 72) (.tmp 73) (.tmp 83),0,ev,#[aj 3,aj 4,aj 14,ao 14,al 0,al 1,al 2,al 3,al 4,al 5,al 6,al 7,al 8,al 9,al 10,al 11,al 12,al 13,al 14],none⟩
def Rm:Array Oper:= #[afY,afZ,af0,af1,af2,af3,af4,af5,af6,af7,abE,abF,abG,abH,abI,abJ]
theorem PF(m:Md)(F:Fo)(mv tv:Value)(w:World)(B:Nat)(hm:jM w B mv m)(Y:dr w B tv F)(hB:B<=w.heap.size)(hz:∀r∈m.prog.rules,nh r)(MK:m.bH.length<=8)(yP:iy m=true)(Ke:FE m F=true)(hL:Fi m=true):
 Calls Tryz.prog 34 #[mv,tv] w (Rl w true (XW true m F.list)):=by
 have HM:=hI hm;obtain⟨dv,cv,fv,rv,rfl,u,hc,O,hr⟩:=hm;obtain⟨da,dc,rfl⟩:=u.slice;obtain⟨ca,cc,rfl⟩:=hc.slice;obtain⟨fa,fc,rfl⟩:=O.slice;obtain⟨ra,rc,rfl⟩:=hr.slice;obtain⟨ta,tc,rfl⟩:=Y.slice;obtain⟨W1,a,W,U⟩:=CD w (.cells #[.slice da m.bH.length dc,.slice ca m.prog.sig.cons.length cc,.slice fa m.prog.sig.bj.length fc,.slice ra m.prog.rules.length rc] 50);have FW:Hd (∀V,Below w.heap.size w V->jM V w.heap.size (.agg #[.slice da m.bH.length dc,.slice ca m.prog.sig.cons.length cc,.slice fa m.prog.sig.bj.length fc,.slice ra m.prog.rules.length rc]) m):=hI λV g=>(HM.o.mono hB).below g lR;have S_:Hd (∀V,Below w.heap.size w V->dr V w.heap.size (.slice ta F.len tc) F):=hI λV g=>(Y.mono hB).below g lR;obtain⟨fw,kV,jN,BV⟩:=h_4 (lH m _ W1 w.heap.size (FW.o _ W) W.size hz MK) W U a;have x0:=cZ U;have x1:=eY U;have x2:=fu U;have x3:=xk U;have zx:=af x0;unfold aH at fw;have uX:Hd (iy m=true->(kW m).length<=1000):=hI λh=>BD h;clear u hc O hr Y W U hz MK hB a;rw[yP]at fw;simp only[if_true]at fw;have JV:=hI yP;have HPB:=hI Ke;clear yP Ke;have HPR:Hd (∀V,Below w.heap.size w V->aH Tryz.prog 108 #[.agg #[.slice da m.bH.length dc,.slice ca m.prog.sig.cons.length cc,.slice fa m.prog.sig.bj.length fc,.slice ra m.prog.rules.length rc],.slice ta F.len tc] V (.bool true)):=hI λV g=>JO m F _ _ V w.heap.size (FW.o V g) (S_.o V g) g.size (ec JV.o).1 HPB.o;unfold aH at HPR;have CT:= @run_makeMap Tryz.prog
 go_enter Tryz.func34,Tryz.ntmps34
 go_upto_region 1 with fail
 rw[<-BV.o]
 go_wp2_with fail
 refine fw.o.mono ?_;rintro e w2 ⟨rfl,bD⟩;have W:=ag kV.o bD lR;have U:=cY bD jN.o;obtain⟨iK,cR,lG⟩:=h_3 (HPR.o w2 W) W U;clear bD x0 x1 x2 x3 zx W;have x0:=cZ U;have x1:=eY U;have x2:=fu U;have x3:=xk U;have zx:=af x0;clear U
 go_wp2_with fail
 refine iK.o.mono ?_;rintro e w3 ⟨rfl,W⟩;have z:=Below.cA w3 (.map #[] 0);have d:=ag (ag cR.o W lR) z lR;have U:=bQ (cY W lG.o) z (by have:=(gE lG.o).1;have:=W.size;omega);obtain⟨s,a⟩:=xE w3.heap.size;have H:(w3.alloc (.map #[] 0)).heap[s]? =some (.map #[] 0):=by rw[a];exact a_ _ _
 obtain⟨w4,A⟩:=xE (w3.alloc (.map #[] 0));rw[<-A]at z d U H;have y:w.heap.size<=s:=by rw[a];exact(ag cR.o W lR).size
 have u:=hI (yO (ec JV.o).2.1 (.agg #[.slice ca m.prog.sig.cons.length cc,.slice fa m.prog.sig.bj.length fc,.slice ra m.prog.rules.length rc]) w4 w.heap.size (by
  obtain⟨_,_,_,_,e,_,q1,C,q3⟩:=FW.o w4 d;cases e;exact⟨_,_,_,rfl,q1,C,q3⟩) d.size)
 obtain⟨HW4,oI,Xj,HMO,HHB,HHW⟩:=h_6 A d U H a y;clear W z d U H A a y x0 x1 x2 x3 zx
 go_upto_region 4 with fail
 rw[<-HW4.o,<-HHB.o];have x1:=eY Xj.o;have x2:=fu Xj.o;have x3:=xk Xj.o;have zx:=af x1;have X9:Hd (tP (fg m.prog) m.prog.sig.bj.length (λ_=>false) (eA m.prog)):=hI (yt (ec JV.o).2.1);have HEA:Hd (∀l∈eA m.prog,l.length<=m.prog.sig.bj.length):=hI (tE _ _);have HNL:Hd (m.prog.sig.bj.length<=8):=hI (Fv JV.o);have AN:Hd ((eA m.prog).length<=8):=hI (ai (rh _ _) HNL.o);have HAX:=hI (abD m F.list);obtain⟨gs,U⟩:=xE (eA m.prog);rw[<-U]at u X9 HEA AN HAX;have HG0:=hI U;clear U
 go_wp2_with fail
 refine u.o.mono ?_;rintro e w5 ⟨gv,base,vals,rfl,a,U⟩;obtain⟨ga,gc,rfl⟩:=cr a.own;have W:s<w4.heap.size:=(gE HMO.o).1;have M:BI gs vals w5 s 0 0:=⟨λ_=>none,⟨[],⟨#[],0,bQ HMO.o U W,by simp,by simp,by simp⟩,by simp,λ_=>rfl⟩,λi f _ _ hc=>by
  rcases hc with hc|⟨_,hc⟩
  ·exact ay hc (ax _)
  ·simp at hc⟩
 obtain⟨jP,LC,HHM,HN5⟩:=h_4 (ag oI.o U lR) a M (cY U Xj.o);have H45:Hd (s<w5.heap.size):=hI (by have:=U.size;omega);have amd:=AN.o;clear a U W M x1 x2 x3 zx u;go_wp2
 go_loopw [31] (λi wr=>∃k:Nat,k<=gs.length/\i=.int .i64 k/\BI gs vals wr s k 0/\Fix (λq=>q=s) w5 wr) (λi _=>gs.length-(intOf i).toNat)
 case atStart=>exact⟨0,aw _,rfl,HHM.o,Fix.refl _ _⟩
 case round=>
  obtain⟨k,hk,rfl,M,I⟩:=hrel;obtain⟨A,rfl⟩:∃A:World,A=wr:=⟨_,rfl⟩;have jz:∀(V:World),Fix (λq=>q=s) w5 V->∀(q:Nat) (cur:Array Value) (t:TypeId) (f:Nat×Nat),w5.heap[q]? =some (.cells cur t f)->V.heap[q]? =some (.cells cur t f):=λV g q cur t f y=>(g.block q (gE y).1 λe=>by
   obtain⟨_,U,_⟩:=HHM.o;obtain⟨es,c,H⟩:=U.obj;rw[e,H]at y;cases y).trans y
  have hgw:=LC.o.keep (jz A I);by_cases a:k<gs.length
  ·obtain⟨b,cap,p,pc,yZ,fF,d0,G,U⟩:=hgw.ajh a;cases yZ;have zd:=af d0;have N:(k:Int)<(gs.length:Int):=by omega
   have W:(AP gs k).length<=8:=ai (HEA.o _ (by unfold AP;rw[ae a];exact aR _)) HNL.o;obtain⟨d,C,dL,u,D⟩:=h_5 M I a U W;obtain⟨l,hl⟩:=xE (AP gs k);have E:Hd (∀V,Fix (λq=>q=s) w5 V->dw V (.slice p l.length pc) l):=hI λV g=>by
    rw[hl,<-U];exact(LC.o.keep (jz V g)).parts k a
   have HL:=hI hl;rw[<-hl]at d0 u D W;clear M I a U jz G hgw hl;go_wp2
   go_loopw [37] (λi wr=>∃j:Nat,j<=l.length/\i=.int .i64 j/\BI gs vals wr s k j/\Fix (λq=>q=s) w5 wr) (λi _=>l.length-(intOf i).toNat)
   case atStart=>exact⟨0,aw _,rfl,d.o,C.o⟩
   case round=>
    obtain⟨j,z,rfl,M,I⟩:=hrel;obtain⟨J,rfl⟩:∃J:World,J=wr:=⟨_,rfl⟩;by_cases a:j<l.length
    ·obtain⟨f,O⟩:∃f,l[j]? =some f:=⟨_,ae a⟩;obtain⟨nb,no,hp,qM,e0⟩:=(E.o J I).cellAt O;subst hp;have KZ:(j:Int)<(l.length:Int):=by omega
     obtain⟨o,eo,L⟩:=M.set X9.o dL.o (by rw[<-HL.o];exact O) u.o Tryz.underlying157;have G:=hI L;have nk:=hI a;have U:Hd (Fix (λq=>q=s) w5 (J.putObj s o)):=hI (I.trans ⟨rfl,rfl,rfl,by simp,λq _ y=>aA y⟩);have Q:s<J.heap.size:=by have:=H45.o;have:=I.size;omega
     clear M I a O L;go_wp2
     go_roundw
     case rel=>exact⟨j+1,nk.o,by go_num,G.o,U.o⟩
     case measure=>have:=nk.o;simp[intOf];omega
    ·obtain rfl:j=l.length:=by omega
     have lG:=hI (M.next (by rw[<-HL.o];exact lR));have U:=hI I;clear M I a z;go_wp2
     go_roundw
     case rel=>exact⟨k+1,dL.o,by go_num,lG.o,U.o⟩
     case measure=>have:=dL.o;simp[intOf];omega
  ·obtain rfl:k=gs.length:=by omega
   have HHF:Hd (∀V,Below A.heap.size A V->BI gs vals V s gs.length 0):=hI λV g=>M.same λo ho=>cY g ho;have U:Below w.heap.size w A:=jP.o.trans (I.toBelow jP.o.size λb W=>by rw[W];exact HHW.o);have HGV:Hd (∀V,Below A.heap.size A V->∀i,i<gs.length->dw V (vals[i]?.getD undef) (AP gs i)):=hI λV g i hi=>(hgw.below g).parts i hi;have u9:=hI (jz A I _ _ _ _ HN5.o);have x3:=xk u9.o;have zx:=af x3;have HBO:=hI U;have nR:Hd (F.len=m.prog.sig.bj.length/\∀j,j<F.len->dB m.bH 20 (F.at j)=true):=hI (by
    have:=HPB.o;unfold FE at this;rw[ak,aK]at this;exact⟨bu this.1,λj z=>by have:=this.2 j (bq.2 z);rw[ak]at this;exact this.1⟩)
   have EJ:Hd (∀j,j<m.prog.sig.bj.length->F.list[j]?.getD default=F.at j/\(F.list[j]?.getD default).ok/\(F.list[j]?.getD default).one.nr/\(F.list[j]?.getD default).size<=20/\(F.list[j]?.getD default).QS):=hI λj z=>by
    have e:F.list[j]?.getD default=F.at j:=(Fo.v7 F j).symm;have Y:=nR.o.2 j (by rw[nR.o.1];exact z);rw[e];have hk:=tH (Mv Y);have hz:(F.at j).size<=20:=by
     unfold dB at Y;rw[ak]at Y;exact bu Y.1
    refine⟨rfl,L7 Y,hk,hz,by omega,?_,hk⟩;have:=DE (n:=20) (F:=(F.at j).one) λx W=>by have:=(wC Y).2.2 x W;omega
    rw[Nd.nz]at this;omega
   have T1:m.prog.rules.length<=140737488355328:=by
    obtain⟨_,_,_,_,e,_,_,_,q3⟩:=FW.o A U;cases e;exact q3.small
   have HRL:=hI T1;clear M I hgw jz hk a U;go_wp2;clear x3 zx
   go_loopw [50] (λi wr=>∃c:Nat,c<=m.prog.rules.length/\i=.int .i64 c/\Below A.heap.size A wr/\∀j,j<c->Mw true m F.list (np gs (cQ m.prog.rules j).fn) (cQ m.prog.rules j)=true) (λi _=>m.prog.rules.length-(intOf i).toNat)
   case atStart=>exact⟨0,aw _,rfl,bR,λj z=>ay z (ax _)⟩
   case round=>
    obtain⟨c,hc,rfl,ep,bW⟩:=hrel;obtain⟨J,rfl⟩:∃J:World,J=wr:=⟨_,rfl⟩;have c_:Below w.heap.size w J:=HBO.o.trans (ep.mono HBO.o.size);by_cases a:c<m.prog.rules.length
    ·obtain⟨r,hr⟩:=xE (cQ m.prog.rules c);have C:r∈m.prog.rules:=by rw[hr];unfold cQ;rw[ae a];exact aR a
     obtain⟨l,hl⟩:=xE (np gs r.fn);obtain⟨g1,g2,g3,g4⟩:=abo JV.o (types:=F.list) (λj z=>(EJ.o j z).2.1) C;rw[<-HG0.o,<-hl]at g1 g2 g3 g4;obtain⟨gi,U,D6⟩:=bC.1 g3;have tS:AP gs gi=l:=by unfold AP;rw[ae U];exact D6
     have j6:r.fn∈cX l:=bh.1 (List.mem_filter.1 g2).2;obtain⟨_,_,_,_,e,_,_,_,q3⟩:=FW.o J c_;cases e;obtain⟨b,off,cap,p,pc,q,qc,yZ,fF,d0,d1,d2,d3,d4,d5,G,L⟩:=zK q3 bR a;cases yZ;rw[<-hr]at d0 d1 d2 d3 d4 d5 G L;have zd:b<J.heap.size:=af d0;have hcI:(c:Int)<(m.prog.rules.length:Int):=by omega
     obtain⟨D,Wc,W,N⟩:=CD J (.cells #[.int .i64 r.fn,.slice p r.bT.len pc,.int .i64 r.rhs.a,.int .i64 r.rhs.n,.slice q r.rhs.k.len qc,.int .i64 r.vars] 139);have u:=ag c_ W lR;have Q:=ag ep W lR;have Kh:=hI (tw (types:=F.list) (cX l) (FW.o D u) (by rw[Fo.l9];exact S_.o D u) u.size (uX.o JV.o));have ka:=cY Q u9.o;obtain⟨qb,R⟩:=xE J.heap.size;rw[<-R]at N;obtain⟨ZB,HA1,HQB⟩:=h_3 N Wc R;have HPQ:Hd (∀V,Below D.heap.size D V->dr V w.heap.size (.slice p r.bT.len pc) r.bT/\dr V w.heap.size (.slice q r.rhs.k.len qc) r.rhs.k):=hI λV g=>
      have d:=W.trans (g.mono W.size)
      ⟨G.below d c_.size,L.below d c_.size⟩
     obtain⟨Ym,MW,dL,dK,HR,HL,E⟩:=h_7 u Q a bW hr hl (show _/\_/\_/\_/\_/\_/\_/\_ from⟨g1,g2,g3,g4,U,tS,j6,C⟩);clear ep bW c_ a hr C hl g1 g2 g3 g4 U D6 tS j6 q3 fF G L W N Wc u Q R hc
     go_upto_region 16 with fail
     rw[<-HA1.o,<-HQB.o];clear d0 d1 d2 d3 d4 d5 zd;have x0:=cZ ka;have x1:=eY ka;have x2:=fu ka;have x3:=xk ka;have zx:=af x0;clear ka
     go_wp2_with fail
     refine Kh.o.mono ?_;rintro e w2' ⟨X,rfl,iB,hXB,Q,G,L,l8,bD⟩;clear x0 x1 x2 x3 zx;obtain⟨rr,rgv,rps,ruv,rup,U⟩:=id l8;have ak4:=U.own.lt;have ak5:=U.env.lt;clear U;obtain⟨tb,uD⟩:=xE w2'.heap.size;obtain⟨C,Us,gS,D_⟩:=CD w2' (.cells #[.pointer (some ⟨X.cx,0,none⟩)] 147);have Gi:C.heap.size=w2'.heap.size+1:=by rw[Us];simp
     rw[<-uD]at D_;have HNM:=hI (PD C (.func 111) #[] #[.pointer (some ⟨tb,0,none⟩)]);obtain⟨w6,XX,yX,u⟩:=UQ C (.cells #[.func (.func 111) #[] #[.pointer (some ⟨tb,0,none⟩)]] 113) (.map #[] 0) (.cells #[.map (some (C.heap.size+1))] 120);obtain⟨r0,gv0,ps0,uv0,up0,R⟩:=(l8.below gS).below yX;have JW:Below D.heap.size D w6:=(bD.trans (gS.mono bD.size)).trans (yX.mono (by have:=bD.size;omega));have Ki:qq X #[.pointer (some ⟨X.gx,0,none⟩),X.dv,X.cv,X.fv,X.rv,X.tv,.map (some X.ob),.map (some X.eb),X.kv,.int .i64 ((0:Nat):Int),uv0] (C.heap.size+2) C.heap.size tb (C.heap.size+1) [] w6:=
      ⟨u.2.2,u.1,cY yX D_,R.fW,⟨[],⟨#[],0,u.2.1,by simp,by simp,by simp⟩,by simp,λ_=>rfl⟩⟩
     have FV:X.base<=C.heap.size+1/\C.heap.size+1≠X.ob/\C.heap.size+1≠X.eb:=by have:=bD.size;omega
     obtain⟨f0,Ka,ajl⟩:=ni E.o.2.2.2.2.2.2.1;have U:Below A.heap.size A w6:=MW.o.trans (JW.mono MW.o.size);obtain⟨fn,kZ,hfv⟩:=HHF.o w6 U;have W:=hfv gi f0 E.o.2.2.2.2.1 (by rw[E.o.2.2.2.2.2.1];exact Ka) (.inl E.o.2.2.2.2.1);rw[<-ajl]at W;have aga:=HGV.o w6 U gi E.o.2.2.2.2.1;rw[E.o.2.2.2.2.2.1]at aga;obtain⟨p1,pc1,e1⟩:=aga.slice;rw[e1]at W;have qE:=lp (w:=w6) (T:=157) (et:=74) (P:=Tryz.prog) Tryz.underlying157 gU kZ (k:=r.fn) W false;simp only[bF,if_false]at qE;unfold eT at qE;have ak6:Hd (∀V,Below D.heap.size w6 V->dw V (.slice p1 l.length pc1) l):=hI λV g=>by
      have:=HGV.o V (U.trans (g.mono MW.o.size)) gi E.o.2.2.2.2.1;rw[E.o.2.2.2.2.2.1,e1]at this;exact this
     have ajm:l.length<=8:=ai (HEA.o l E.o.2.2.1) HNL.o;have q0:w6.cell? ⟨qb,0,none⟩=some (.int .i64 r.fn):=by rw[cell_of_row _ _ _ _ _ _ (cY JW ZB.o)];rfl
     have zq:=af q0;obtain⟨ak7,HNS,ajn,HB6,HW6,WD,ak8,N,JI⟩:=h_9 R Ki FV JW XX Us uD (show _/\_/\_/\_/\_ from⟨iB,hXB,Q,G,L⟩) ajm;clear l8 bD ak4 ak5 gS D_ Gi yX u R JW Ki FV Ka ajl U kZ hfv W aga e1 iB hXB Q G L uD Us XX
     go_upto_region 17 with fail
     rw[<-WD.o,<-ak8.o]
     go_wp2_with fail
     refine HNM.o.mono ?_;rintro e W ⟨rfl,U⟩;rw[<-HW6.o]at U;rw[U];clear U W;go_wp2;have u:X.base=D.heap.size:=N.o.1;have ajo:Hd (∀f,lf X.C ((f:Nat):Int)=F.at f):=hI λf=>by rw[X.Xw,N.o.2.2.2.1,Fo.l9]
     have G8:Hd ((rZ iz (lf X.C) (cX (l.drop 0)) gX []).1=Aw true X.C X.l):=hI (by rw[List.drop_zero,<-N.o.2.2.2.2];unfold Aw;rw[aq rfl]);clear qE u q0 zq
     go_loopw [65] (λi wr=>∃(j:Nat) (S:Ck) (v:En) (r:Option Nat) (gv:Value) (ps:List Value),j<=l.length/\i=.int .i64 j/\cU X (λ_=>False) wr S 0 r gv ps uv0 up0/\qq X #[.pointer (some ⟨X.gx,0,none⟩),X.dv,X.cv,X.fv,X.rv,X.tv,.map (some X.ob),.map (some X.eb),X.kv,.int .i64 ((0:Nat):Int),uv0] (C.heap.size+2) C.heap.size tb (C.heap.size+1) v wr/\
      (rZ iz (lf X.C) (cX (l.drop j)) S v).1=Aw true X.C X.l/\S.g.length<=20*j/\Below D.heap.size w6 wr) (λi _=>l.length-(intOf i).toNat)
     case atStart=>exact⟨0,gX,[],r0,gv0,ps0,aw _,rfl,ak7.o,HNS.o,G8.o,aw _,bR⟩
     case round=>
      obtain⟨u,rfl⟩:∃u:World,u=wr:=⟨_,rfl⟩;obtain⟨j,S,v,rr,gv,ps,z,rfl,R,Ki,cO,k_,Wv⟩:=hrel;by_cases a:j<l.length
      ·obtain⟨f,O⟩:∃f,l[j]? =some f:=⟨_,ae a⟩;have sW:f∈l:=List.mem_of_getElem? O;have su:f<m.prog.sig.bj.length:=E.o.2.2.2.1 f sW;have hfF:f<F.len:=by rw[nR.o.1];exact su
       obtain⟨nb,no,hp,qM,e0⟩:=(ak6.o u Wv).cellAt O;subst hp;have agc:Below w.heap.size w u:=Ym.o.trans ((HB6.o.trans Wv).mono Ym.o.size);obtain⟨nt,ot,ame,p2,pc2,het,ajp,U,f1,f2,iS⟩:=dC (S_.o u agc) bR hfF;cases het;have KZ:(j:Int)<(l.length:Int):=by omega
       have hfI:(f:Int)<(F.len:Int):=by omega
       have zn:=af e0;have t0:=cZ Ki.tb;have t1:u.cell? ⟨X.cx,6,none⟩=some (.map (some X.ob)):=R.at.c6;have t2:u.cell? ⟨X.cx,0,none⟩=some (.pointer (some ⟨X.gx,0,none⟩)):=R.at.c0;have zt:=af t0;have zc:=af t1;have zf:=af U;have OX:l.drop j=f::l.drop (j+1):=by
        obtain⟨d,W⟩:=cL.1 O;rw[bI d,W]
       rw[OX]at cO;obtain⟨Uo,HNW,HOW,HGW,yx,nk,HKK,ak9,Gq⟩:=h_9 R Ki cO k_ Wv a iS agc (show _/\_/\_ from⟨su,sW,ajp⟩);have ajm:=JI.o;clear R Ki cO k_ Wv a O sW su hfF agc iS ajp OX z qM;obtain⟨T,hT⟩:=xE (F.at f);have HT:=hI hT;rw[<-hT]at U f1 f2 HKK;clear hT
       go_wp2_with fail
       refine ff (S:=λV=>V.cell? ⟨tb,0,none⟩=some (.pointer (some ⟨X.cx,0,none⟩))/\V.cell? ⟨X.cx,6,none⟩=some (.map (some X.ob))/\V.cell? ⟨X.cx,0,none⟩=some (.pointer (some ⟨X.gx,0,none⟩))/\V.cell? ⟨nt,ot+f*3,none⟩=some (.int .i64 T.a)/\V.cell? ⟨nt,ot+f*3+1,none⟩=some (.int .i64 T.n)/\V.cell? ⟨nt,ot+f*3+2,none⟩=some (.slice p2 T.k.len pc2)) 15 (by kernel_rfl) (by decide) (⟨t0,t1,t2,U,f1,f2⟩) (λhHeld=> ?_)
       change mI _ _ Rm _ _ _ _ _ _ _ _
       refine oD (λZ=>Below u.heap.size u Z) (Below.ia bR) hHeld ?_;clear hHeld;rintro V dU hHeld;refine qH 0 ⟨some 69,.load 147 (.tmp 13),147,ev,#[],none⟩ hHeld ?_;refine qH 1 ⟨some 70,.nilCheck (.tmp 69),0,ev,#[aj 0],none⟩ hHeld ?_;refine qH 2 ⟨some 71,.fieldAddr 152 (.tmp 70) 3,0,ev,#[aj 1],none⟩ hHeld ?_;refine qH 3 ⟨some 72,.load 120 (.tmp 71),120,ev,#[aj 2],none⟩ hHeld ?_;refine qH 4 ⟨some 73,.move (.tmp 16),3,ev,#[],none⟩ hHeld ?_;refine qH 5 ⟨some 74,.load 147 (.tmp 13),147,ev,#[],none⟩ hHeld ?_;refine qH 6 ⟨some 75,.nilCheck (.tmp 74),0,ev,#[aj 5],none⟩ hHeld ?_;refine qH 7 ⟨some 76,.fieldAddr 152 (.tmp 75) 0,0,ev,#[aj 6],none⟩ hHeld ?_;refine qH 8 ⟨some 77,.load 107 (.tmp 76),107,ev,#[aj 7],none⟩ hHeld ?_;refine qH 9 ⟨some 78,.move (.tmp 1),24,ev,#[],none⟩ hHeld ?_;refine qH 10 ⟨some 79,.move (.tmp 16),3,ev,#[],none⟩ hHeld ?_;refine qH 11 ⟨some 80,.indexAddr 24 (.tmp 78) (.tmp 79),0,ev,#[aj 9,aj 10],none⟩ hHeld ?_;refine qH 12 ⟨some 81,.load 26 (.tmp 80),26,ev,#[aj 11],none⟩ hHeld ?_;refine qH 13 ⟨some 82,.move (.tmp 14),113,ev,#[],none⟩ hHeld ?_;have jD:=EJ.o f Gq.o.1;rw[jD.1,<-HT.o]at jD;have HCF:=hI (afM (Uo.o.below dU) (HNW.o.below dU) rfl ajn.o (T:=T) (tv:=.agg #[.int .i64 T.a,.int .i64 T.n,.slice p2 T.k.len pc2]) jD.2.2.1 ⟨_,rfl,by rw[N.o.2.1];exact HKK.o.below dU ak9.o.size⟩ (by have:=HGW.o;have:=jD.2.2.2.1;omega));obtain⟨idx,Gs⟩:=xE ((dO iz T.one S.g v).2.headD 0);rw[<-Gs]at HCF;obtain⟨HID,ud,Xl,T8⟩:=h_4 Gs dU (show _/\_/\_ from⟨U,f1,f2⟩) jD.2.2.2.1;clear dU t0 t1 t2 U f1 f2 zt zc zf zn e0 jD Gs;refine qO 14 ⟨some 83,.call ⟨.value (.func 73),#[.tmp 77,.tmp 81,.tmp 82],#[107,26,113]⟩,3,ev,#[aj 8,aj 12,aj 13],none⟩ λK hK=> ?_;go_simp;refine HCF.o.mono ?_;rintro e FH ⟨rfl,⟨r',BB,o9,Rn⟩,agd,ade⟩;have IE:Below D.heap.size u FH:=(ud.o.mono (by have:=(HB6.o.trans yx.o).size;exact this)).trans (by rw[<-N.o.1];exact ade);have kH:=IE.mono Ym.o.size;have s0:=cZ agd.tb;obtain⟨HS,age,Yo,ak_⟩:=h_4 (show _/\_/\_/\_/\_/\_ from⟨s0,Rn.at.c6,Rn.at.c0,(kH.cell (p:=⟨nt,ot+f*3,none⟩) Gq.o.2.2).trans Xl.o.1,(kH.cell (p:=⟨nt,ot+f*3+1,none⟩) Gq.o.2.2).trans Xl.o.2.1,(kH.cell (p:=⟨nt,ot+f*3+2,none⟩) Gq.o.2.2).trans Xl.o.2.2⟩) Rn agd IE;clear Rn agd ade IE kH s0 hHeld HCF;refine qK hK (HS.o) λhHeld=> ?_;clear hK K;refine jQ (by kernel_rfl) ?_
       change wpList _ Rm _ [⟨none,.mapUpdate 120 (.tmp 72) (.tmp 73) (.tmp 83),0,ev,#[aj 3,aj 4,aj 14,ao 14,al 0,al 1,al 2,al 3,al 4,al 5,al 6,al 7,al 8,al 9,al 10,al 11,al 12,al 13,al 14],none⟩] _ _
       clear hHeld;obtain⟨o,eo,h6,xH⟩:=age.o.XK (Int.natCast_nonneg f) idx;have U:Hd (qq X #[.pointer (some ⟨X.gx,0,none⟩),X.dv,X.cv,X.fv,X.rv,X.tv,.map (some X.ob),.map (some X.eb),X.kv,.int .i64 ((0:Nat):Int),uv0] (C.heap.size+2) C.heap.size tb (C.heap.size+1) (dO iz T.one S.g v).1.2 (FH.putObj X.ob o)):=hI (by
        obtain⟨es,k,H⟩:=age.o.own.obj;refine Yo.o.keep λq o' y ho=>(aA λe=> ?_).trans ho;rcases y with y|y|y|y|y
        ·rw[<-e,y,Yo.o.bn]at H;cases H
        ·rw[<-e,y,Yo.o.bc]at H;cases H
        ·rw[<-e,y,Yo.o.tb]at H;cases H
        ·rw[<-e,y,Yo.o.cx]at H;cases H
        ·exact ajn.o.2.1 (y.symm.trans e))
       have H11:=hI h6;have ajq:Hd (Below D.heap.size w6 (FH.putObj X.ob o)):=hI ((yx.o.trans ak_.o).trans (dI bR (by rw[<-N.o.1];exact age.o.xe) o));have alb:Hd ((dO iz T.one S.g v).1.1.length<=20*(j+1)):=hI (by
        have d:=mC MU T.one S.g v;rw[Nd.jr]at d;have:=HGW.o;have:=T8.o;omega)
       have alc:Hd ((rZ iz (lf X.C) (cX (l.drop (j+1))) ⟨(dO iz T.one S.g v).1.1,(-1-((f:Nat):Int),idx)::S.env,S.us⟩ (dO iz T.one S.g v).1.2).1=Aw true X.C X.l):=hI (by
        have d:=HOW.o;have e:T=lf X.C ((f:Nat):Int):=by rw[ajo.o,HT.o]
        rw[HID.o,e];exact d)
       clear h6 xH;go_wp2
       go_roundw
       case rel=>exact⟨j+1,_,_,r',BB,o9,nk.o,by go_num,H11.o,U.o,alc.o,alb.o,ajq.o⟩
       case measure=>have:=nk.o;simp[intOf];omega
      ·obtain rfl:j=l.length:=by omega
       rw[List.drop_length]at cO;have hSe:S=Aw true X.C X.l:=cO;have Q:=N.o.2.2.1;have L:=N.o.2.2.2.2;have G:=N.o.2.2.2.1;have hC:X.C=kn m F.list (cX l):=by unfold CX.C;rw[Q,G,L]
       have hxo:Ds X:=Pp (by rw[Q];exact JV.o) (by rw[G,Q,Fo.jg,nR.o.1]);have Ul:yM X:=It (by rw[Q];exact JV.o) (by rw[Q];exact hL) L λf _ k hk _=>.inr (by rw[G];rw[Q]at hk;exact⟨(EJ.o k hk).2.1,(EJ.o k hk).2.2.2.2⟩);have Dx:=Ul r (by rw[Q,L];exact E.o.2.1);obtain⟨ok1,ok2,ok3,ok4⟩:=abC (X:=X) (by rw[L];exact E.o.1.nodup) (by rw[L];exact E.o.1.pos) (by
        rw[L];intro f' U;obtain⟨k,hk,rfl⟩:=ni U;have d:=EJ.o k (E.o.2.2.2.1 k hk);rw[d.1]at d;rw[ajo.o];exact⟨d.2.1,d.2.2.1,d.2.2.2.1⟩)
       rw[<-hSe]at ok1 ok2 ok3 ok4;have gP:r.bT.size+r.rhs.size<=200:=by
        have:=Io JV.o (i:=c) dL.o;rw[<-HR.o]at this;exact this
       have KE:Room S 0 (r.bT.size+r.rhs.size):=⟨by rw[L,eP]at ok3;have:=JI.o;omega,by rw[ok4];show 0+_<=_;omega,by omega⟩;have adf:X.C.own r.fn=true:=by
        show X.l.contains r.fn=true;rw[L];exact bh.2 E.o.2.2.2.2.2.2.1
       have MX:Below D.heap.size D u:=HB6.o.trans Wv;have ajr:=cY MX ZB.o;have ajs:(OQ true X.C r S).isSome=Mw true m F.list l r:=by rw[hSe];unfold Mw;rw[hC,L]
       have U:X.base<=u.heap.size:=R.lt.2.2;have Mt:=hI (q9 113 #[.pointer (some ⟨tb,0,none⟩),.pointer (some ⟨qb,0,none⟩)] (λW'=>Below X.base u W'/\Mw true m F.list l r=true) (λW'=>Below X.base u W'/\Mw true m F.list l r=false) u (λ_ _=>rfl) (by
        rintro V g;have s:Below u.heap.size u V:=by rw[g];exact Below.cA _ _
        have Dz:V.heap[u.heap.size]? =some (.cells #[.bool false] 4 (0,0)):=by rw[g];exact a_ _ _
        have hpq:=HPQ.o V (MX.trans (s.mono MX.size));refine(MQ hxo Dx.1 Dx.2 ⟨_,_,_,_,_,R.below s⟩ ok2 ok1 adf KE (cY s Ki.tb) (cY s ajr) (by rw[N.o.2.1];exact hpq.1) (by rw[N.o.2.1];exact hpq.2)).mono ?_;rintro e W' ⟨IK,DS,ef⟩;refine⟨DS _ _ Dz,?_⟩;have hl3:=(s.mono U).trans IK;rw[<-ajs];cases hfs:OQ true X.C r S with
        |none=>rw[hfs]at ef;exact .inr ⟨ef,hl3,rfl⟩
        |some S2=>rw[hfs]at ef;exact .inl ⟨ef,hl3,rfl⟩))
       have HBF:Hd (∀W1 w',Below X.base u W1->vo u.heap.size W1 w'->Below A.heap.size A w'/\Below w.heap.size w w'):=hI λW1 w' d W=>by
        have h3:Below X.base u w':=d.trans (W.below U (ai U d.size));rw[N.o.1]at h3;have h4:Below D.heap.size D w':=MX.trans h3;exact⟨MW.o.trans (h4.mono MW.o.size),Ym.o.trans (h4.mono Ym.o.size)⟩
       have hcI:(c:Int)<140737488355328:=by have:=dL.o;have:=HRL.o;omega
       clear z R Ki cO k_ Wv a hSe Q L G hC hxo Ul Dx ok1 ok2 ok3 ok4 gP KE adf MX ajr ajs U
       go_wp2_with fail
       refine Mt.o.mono ?_;rintro e si (⟨rfl,W1,⟨d,W⟩,U⟩|⟨rfl,W1,⟨d,W⟩,U⟩)
       ·have HF:=hI (HBF.o W1 si d U);have Yp:Hd (∀j,j<c+1->Mw true m F.list (np gs (cQ m.prog.rules j).fn) (cQ m.prog.rules j)=true):=hI λj z=>by
         by_cases e:j=c
         ·rw[e,<-HR.o,<-HL.o];exact W
         ·exact dK.o j (by omega)
        clear d W U;go_wp2
        go_roundw
        case rel=>exact⟨c+1,dL.o,by go_num,HF.o.1,Yp.o⟩
        case measure=>have:=dL.o;simp[intOf];omega
       ·have HF:=hI (HBF.o W1 si d U);have HAS:Hd (XW true m F.list=some c):=hI (by
         rw[HAX.o];refine JU dL.o (λj z=> ?_) ?_
         ·have:=dK.o j z;unfold cQ at this;rw[this];rfl
         ·rw[HR.o]at W HL;have e1:=HL.o;unfold cQ at W e1;rw[<-e1,W];rfl)
        clear d W U;go_wp2
        go_ret2
        rw[HAS.o];exact⟨HF.o.2,rfl⟩
    ·obtain rfl:c=m.prog.rules.length:=by omega
     have U:Hd (XW true m F.list=none):=hI (by
      rw[HAX.o];refine JT λj z=> ?_;have:=bW j z;unfold cQ at this;rw[this];rfl)
     have W:=hI c_;clear hc ep bW c_ a;go_wp2
     go_ret2
     rw[U.o];exact⟨W.o,rfl⟩
end
section
open Go Go.RowKit
attribute [local go_sem] aT cW df
theorem TF{w1:World}{e T:TypeId}{sz base L:Nat}{xs:List Value}(d:w.ownsRow base e sz v n xs)(eC:T≠e)(i:w.grownBy w1 v.ownBlock):gN (nO T L) w w1:=λb o j h=>by
 obtain⟨_,cur,f,rfl⟩:=j;refine(i.block b (gE h).1 λc=> ?_).trans h;rcases d.2 with⟨rfl,_⟩|⟨g,cap,k,rfl,_,a,_⟩
 ·cases c
 ·cases c;rw[h]at a;simp only[aL,Obj.cells.injEq]at a;exact eC a.2.1
def gV:List Bd->List Value->List Value
 |b::bs,p::ps=>[.int .i64 b.var,.int .i64 b.jL.a,.int .i64 b.jL.n,p]++gV bs ps
 |_,_=>[]
theorem Cw:∀{bs:List Bd} {ps:List Value},ps.length=bs.length->(gV bs ps).length=bs.length*4
 |[],[],_=>rfl
 |_::bs,_::ps,h=>by
  have:=Cw (bs:=bs) (ps:=ps) (by simpa using h);unfold gV;rw[az,this];simp;omega
 |[],_::_,h=>by simp at h
 |_::_,[],h=>by simp at h
theorem AE:∀{bs:List Bd} {ps:List Value} {b:Bd} {p:Value},ps.length=bs.length->gV (bs++[b]) (ps++[p])=gV bs ps++[.int .i64 b.var,.int .i64 b.jL.a,.int .i64 b.jL.n,p]
 |[],[],b,p,_=>by simp[gV]
 |u::bs,q::ps,b,p,h=>by
  show[.int .i64 u.var,.int .i64 u.jL.a,.int .i64 u.jL.n,q]++gV (bs++[b]) (ps++[p])=([.int .i64 u.var,.int .i64 u.jL.a,.int .i64 u.jL.n,q]++gV bs ps)++_;rw[AE (by simpa using h),aG]
 |[],_::_,_,_,h=>by simp at h
 |_::_,[],_,_,h=>by simp at h
theorem Cx:∀{bs:List Bd} {ps:List Value} {i:Nat},ps.length=bs.length->i<bs.length->(gV bs ps)[i*4]? =some (.int .i64 (eN bs i).var)/\(gV bs ps)[i*4+1]? =some (.int .i64 (eN bs i).jL.a)/\(gV bs ps)[i*4+2]? =some (.int .i64 (eN bs i).jL.n)/\(gV bs ps)[i*4+3]? =some (ps[i]?.getD undef)
 |[],_,_,_,h=>ay h (ax _)
 |_::_,[],_,h,_=>by simp at h
 |u::bs,q::ps,0,_,_=>⟨rfl,rfl,rfl,rfl⟩
 |u::bs,q::ps,i+1,h,hi=>by
  obtain⟨a,b,c,d⟩:=Cx (bs:=bs) (ps:=ps) (i:=i) (by simpa using h) (by simpa using hi);have key:∀j,(gV (u::bs) (q::ps))[(i+1)*4+j]? =(gV bs ps)[i*4+j]? :=λj=>by
   show([.int .i64 u.var,.int .i64 u.jL.a,.int .i64 u.jL.n,q]++gV bs ps)[(i+1)*4+j]? =_;rw[bo (by simp;omega)]
   congr 1
   simp;omega
  exact⟨(key 0).trans a,(key 1).trans b,(key 2).trans c,(key 3).trans d⟩
structure mE (w:World) (base:Nat) (v:Value) (bs:List Bd) (ps:List Value):Prop where
 len:ps.length=bs.length
 own:w.ownsRow base 69 4 v bs.length (gV bs ps)
 parts:∀i,i<bs.length->iJ (nO 26 base) w (ps[i]?.getD undef) (eN bs i).jL.k
theorem mE.nil(w:World)(base:Nat):mE w base (.slice none 0 0) [] []:=⟨rfl,aZ _ _ _ _,λi hi=>ay hi (ax _)⟩
theorem mE.below{w1:World}{base:Nat}{bs:List Bd}{ps:List Value}(h:mE w base v bs ps)(a:Below w.heap.size w w1):mE w1 base v bs ps:=
 ⟨h.len,gC h.own (CK.below a),λi hi=>(h.parts i hi).keep (gN.below a)⟩
theorem mE.snoc{w1:World}{base:Nat}{v' p:Value}{bs:List Bd}{ps:List Value}{b:Bd}(h:mE w base v bs ps)(c:w1.ownsRow base 69 4 v' (bs.length+1) (gV bs ps++[.int .i64 b.var,.int .i64 b.jL.a,.int .i64 b.jL.n,p]))(d:w.grownBy w1 v.ownBlock)
 (hp:iJ (nO 26 base) w p b.jL.k):mE w1 base v' (bs++[b]) (ps++[p]):=by
 have a:=TF (T:=26) (L:=base) h.own (by decide) d;refine⟨by simp[h.len],by rw[az,aY,AE h.len];exact c,λi hi=> ?_⟩;rw[az,aY]at hi;unfold eN;by_cases e:i<bs.length
 ·rw[bM (by rw[h.len];exact e),bM e];exact(h.parts i e).keep a
 ·obtain rfl:i=bs.length:=by omega
  rw[bo (by rw[h.len];exact lR),bo lR,h.len,Nat.sub_self];exact hp.keep a
theorem mE.at_{base:Nat}{bs:List Bd}{ps:List Value}(h:mE w base v bs ps)(a:bs.length<=140737488355328):lz w w.heap.size v bs:=by
 refine⟨λi=>(gV bs ps)[i]?.getD undef,eS h.own a (λi hi=>by rw[ae (by rw[Cw h.len];exact hi)];rfl),λi hi=> ?_⟩;obtain⟨c,d,e,f⟩:=Cx h.len hi;simp only;rw[c,d,e,f];exact⟨rfl,rfl,rfl,(h.parts i hi).at_ λb o g _=>(gE g).1⟩
end
section
open Go Go.RowKit Go.Sort
attribute [local go_sem] aT cW df nV uV
abbrev agf:Oper:=⟨some 45,.load 107 (.tmp 8),107,eI,#[],none⟩
abbrev agh:Oper:=⟨some 46,.load 26 (.tmp 4),26,eI,#[],none⟩
abbrev agi:Oper:=⟨some 47,.move (.tmp 11),113,eI,#[],none⟩
abbrev agj:Oper:=⟨some 48,.call ⟨.value (.func 73),#[.tmp 45,.tmp 46,.tmp 47],#[107,26,113]⟩,3,eI,#[aj 0,aj 1,aj 2],none⟩
abbrev agk:Oper:=⟨some 49,.load 107 (.tmp 8),107,eI,#[],none⟩
abbrev agl:Oper:=⟨some 50,.load 26 (.tmp 5),26,eI,#[],none⟩
abbrev agm:Oper:=⟨some 51,.move (.tmp 11),113,eI,#[],none⟩
abbrev agn:Oper:=⟨some 52,.call ⟨.value (.func 73),#[.tmp 49,.tmp 50,.tmp 51],#[107,26,113]⟩,3,eI,#[aj 4,aj 5,aj 6,ao 3],none⟩
abbrev ago:Oper:=⟨some 12,.alloc 3,0,eI,#[],none⟩
abbrev agp:Oper:=⟨some 13,.alloc 3,0,eI,#[],none⟩
abbrev abN:Oper:=⟨none,.store 3 (.tmp 12) (.tmp 48),0,eI,#[aj 8,aj 3,ao 7,al 0,al 1,al 2,al 3,{ on:=4,ground:=Ground.textOnly Go.Departure.lateStores},{ on:=5,ground:=Ground.textOnly Go.Departure.lateStores},{ on:=6,ground:=Ground.textOnly Go.Departure.lateStores},{ on:=7,ground:=Ground.textOnly Go.Departure.lateStoresUnsure},al 8,al 9],none⟩
abbrev abO:Oper:=⟨none,.store 3 (.tmp 13) (.tmp 52),0,eI,#[aj 9,aj 7,ao 10,al 0,al 1,al 2,al 3,al 4,al 5,al 6,al 7,al 8,al 9,al 10],none⟩
def abP:Array Oper:= #[agf,agh,agi,agj,agk,agl,agm,agn,ago,agp,abN,abO]
structure uw (gb nb pb:Nat) (A0:World) (oa ob:Option Nat) (g:Gr) (V:World):Prop where
 un:ki gb (λq=>oa=some q\/ob=some q) g V
 arr:V.heap[nb]? =some (.cells (w_ 20) 111 (0,0))
 gp:V.heap[pb]? =some (.cells #[.pointer (some ⟨gb,0,none⟩)] 107 (0,0))
 a:∀q,oa=some q->V.heap[q]? =some (.cells #[.int .i64 0] 3 (0,0))
 b:∀q,ob=some q->V.heap[q]? =some (.cells #[.int .i64 0] 3 (0,0))
 ne:∀q,oa=some q->ob≠some q
 ge:∀q,oa=some q\/ob=some q->gb<=q
 low:Below gb A0 V
section
variable {gb nb pb:Nat} {A0:World} {oa ob:Option Nat} {g g':Gr} {V V':World}
theorem uw.below(h:uw gb nb pb A0 oa ob g V)(a:Below V.heap.size V V'):uw gb nb pb A0 oa ob g V':=by
 have l:∀{q:Nat} {o:Obj},V.heap[q]? =some o->V'.heap[q]? =some o:=λ{q o} b=>cY a b;exact⟨h.un.below a,l h.arr,l h.gp,λq e=>l (h.a q e),λq e=>l (h.b q e),h.ne,h.ge,h.low.trans (a.mono (bt h.un.lt))⟩
theorem uw.call(h:uw gb nb pb A0 oa ob g V)(hu:ki gb (λq=>oa=some q\/ob=some q) g' V')(a:qp gb V V'):uw gb nb pb A0 oa ob g' V':=
 ⟨hu,a.keep _ _ h.arr (by exact⟨by decide,by decide⟩),a.keep _ _ h.gp (by exact⟨by decide,by decide⟩),λq e=>a.keep _ _ (h.a q e) (by exact⟨by decide,by decide⟩),λq e=>a.keep _ _ (h.b q e) (by exact⟨by decide,by decide⟩),h.ne,h.ge,h.low.trans a.low⟩
theorem uw.tI(h:uw gb nb pb A0 none ob g V):True/\uw gb nb pb A0 (some V.heap.size) ob g (V.alloc (.cells #[.int .i64 0] 3)):=by
 have c:=Below.cA V (.cells #[.int .i64 0] 3);have b:=h.below c;refine⟨trivial,⟨(h.un.TD _).z λq a=> ?_,b.arr,b.gp,λq e=>by cases e;exact a_ _ _,b.b,λq e d=> ?_,λq e=> ?_,b.low⟩⟩
 ·rcases a with a|a
  ·cases a;exact .inr rfl
  ·exact .inl (.inr a)
 ·cases e;have:=(gE (h.b _ d)).1;omega
 ·rcases e with e|e
  ·cases e;exact bt h.un.lt
  ·exact h.ge q (.inr e)
theorem uw.tJ(h:uw gb nb pb A0 oa none g V):True/\uw gb nb pb A0 oa (some V.heap.size) g (V.alloc (.cells #[.int .i64 0] 3)):=by
 have c:=Below.cA V (.cells #[.int .i64 0] 3);have b:=h.below c;refine⟨trivial,⟨(h.un.TD _).z λq a=> ?_,b.arr,b.gp,b.a,λq e=>by cases e;exact a_ _ _,λq e d=> ?_,λq e=> ?_,b.low⟩⟩
 ·rcases a with a|a
  ·exact .inl (.inl a)
  ·cases a;exact .inr rfl
 ·cases d;have:=(gE (h.a _ e)).1;omega
 ·rcases e with e|e
  ·exact h.ge q (.inl e)
  ·cases e;exact bt h.un.lt
structure adg (gb nb pb:Nat) (A0:World) (g:Gr) (x y:Value) (qa qb:Nat) (V:World):Prop where
 un:ki gb (λ_=>False) g V
 arr:V.heap[nb]? =some (.cells (w_ 20) 111 (0,0))
 gp:V.heap[pb]? =some (.cells #[.pointer (some ⟨gb,0,none⟩)] 107 (0,0))
 a:V.heap[qa]? =some (.cells #[x] 3 (0,0))
 b:V.heap[qb]? =some (.cells #[y] 3 (0,0))
 low:Below gb A0 V
structure ajt (gb nb pb:Nat) (A0:World) (g:Gr) (x y:Value) (qa qb:Nat) (V:World):Prop where
 gp:V.heap[pb]? =some (.cells #[.pointer (some ⟨gb,0,none⟩)] 107 (0,0))
 low:Below gb A0 V
 c1:V.cell? ⟨qb,0,none⟩=some (.int .i64 0)
 f1:V.frozen? ⟨qb,0,none⟩=false
 fin:adg gb nb pb A0 g x y qa qb (V.setCell ⟨qb,0,none⟩ y)
structure aju (gb nb pb:Nat) (A0:World) (g:Gr) (x y:Value) (qa qb:Nat) (V:World):Prop where
 c0:V.cell? ⟨qa,0,none⟩=some (.int .i64 0)
 f0:V.frozen? ⟨qa,0,none⟩=false
 rest:ajt gb nb pb A0 g x y qa qb (V.setCell ⟨qa,0,none⟩ x)
theorem uw.stores{qa qb:Nat}(h:uw gb nb pb A0 (some qa) (some qb) g V)(x y:Value):aju gb nb pb A0 g x y qa qb V:=by
 have b:=h.a qa rfl;have l:=h.b qb rfl;have eC:qb≠qa:=λe=>h.ne qa rfl (by rw[e]);have k:=h.ge qa (.inl rfl);have m:=h.ge qb (.inr rfl);have s1:∀{q:Nat} {o:Obj} {W:World} {a:Nat} {v:Value},W.heap[q]? =some o->q≠a->(W.setCell ⟨a,0,none⟩ v).heap[q]? =some o:=λ{q o W a v} i n=>(au _ _ _ _ n).trans i;have f:∀{W:World} {q a:Nat} {c d:Array Value} {t:TypeId},W.heap[q]? =some (.cells c t (0,0))->W.heap[a]? =some (.cells d 3 (0,0))->t≠3->q≠a:=λ{W q a c d t} r j s e=>by
  subst e;rw[r]at j;simp only[aL,Obj.cells.injEq]at j;exact s j.2.1
 have n:=h.un.but (vo.set qa V x) (.inl (.inl rfl)) ⟨_,b,by exact⟨by decide,by decide⟩⟩;have a:=s1 (v:=x) l eC;have u:(V.setCell ⟨qa,0,none⟩ x).heap[qa]? =some (.cells #[x] 3 (0,0)):=by rw[cz b];rfl
 have d:=s1 (v:=x) h.arr (f h.arr b (by decide));have gp1:=s1 (v:=x) h.gp (f h.gp b (by decide));have w:=n.but (vo.set qb _ y) (.inl (.inr rfl)) ⟨_,a,by exact⟨by decide,by decide⟩⟩;refine⟨by rw[cell_of_row _ _ _ _ _ _ b];rfl,by simp[World.frozen?,b],gp1,Below.setCell (p:=⟨qa,0,none⟩) h.low k _,by rw[cell_of_row _ _ _ _ _ _ a];rfl,by simp[World.frozen?,a],w.z λq i=>i.elim,s1 (v:=y) d (f d a (by decide)),s1 (v:=y) gp1 (f gp1 a (by decide)),s1 (v:=y) u (λe=>eC e.symm),by rw[cz a];rfl,Below.setCell (p:=⟨qb,0,none⟩) (Below.setCell (p:=⟨qa,0,none⟩) h.low k _) m _⟩
end
end
end Go.Proofs.YtnicceekibancaaGreat
