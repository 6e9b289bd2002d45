/- Lemmas: ChD ChF RegT ChH App GrE ChI ChJ ChK ChL ChM ChN ChO ChP. -/
import Derived.Test.YtnicceekibancaaGreatBZ
import Derived.Test.YtnicceekibancaaGreatBAF
import Derived.Deep.RegionHeld3
import Derived.Test.YtnicceekibancaaGreatBAA
import Derived.Deep.Cut
import Derived.Maps.AppendAt
import Derived.Test.YtnicceekibancaaGreatBAD
import Derived.Test.YtnicceekibancaaGreatBAE
import Derived.Test.YtnicceekibancaaGreatBAB
set_option linter.all false
set_option maxRecDepth 100000
set_option maxHeartbeats 8000000
namespace Go.Proofs.YtnicceekibancaaGreat
variable{B c d f n q:Nat}{S:Ck}{W w:World}{Z:Nat->Prop}{a:Act}{k:Int}{r:Option Nat}{t:Nd}{v:Value}
section
open Go Go.RowKit Go.Sort
attribute [local go_sem] aT cW df nV uV
def BC(X:CX)(f:Nat)(t:Nd):Prop:=∀(Z:Nat->Prop) (S:Ck) (c:Nat) (tv:Value) (w:World),dm X Z w S c->iA X S->Room S c t.size->cV w X.B tv t->
 Calls Tryz.prog f #[.pointer (some ⟨X.cx,0,none⟩),tv] w (rf X Z w (c+t.size) nV (X.one t c S))
theorem jb.leaf{X:CX}(c:jb X t.one)(b:t.a=1\/t.a=2):t.k=.nil:=by
 have h:=c.node;unfold cS at h;have:t.k.len=0:=by rcases b with b|b<;>rw[b]at h<;>simp at h<;>omega
 cases d:t.k with
 |nil=>rfl
 |cons a n k r=>rw[d]at this;unfold Fo.len at this;omega
theorem eu.Me{mb:Nat}{f:Int->Option Value}(h:eu eT w mb f)(a:f k=some v):∀(d:Nat) (os:Array Obj),(Instr.lookup 120 (.map (some mb)) (.int .i64 k) true).run Tryz.prog (grow (redrawn w d) os)=.ok (.tuple #[v,.bool true]) (grow (redrawn w d) os):=λd os=>
 (lp (T:=120) (et:=3) (P:=Tryz.prog) Tryz.underlying120 gU (h.below (below_regrown w d os) h.lt) (k:=k) a true).trans rfl
theorem eu.Mf{mb:Nat}{f:Int->Option Value}(h:eu eT w mb f)(a:f k=none):∀(d:Nat) (os:Array Obj),(Instr.lookup 120 (.map (some mb)) (.int .i64 k) true).run Tryz.prog (grow (redrawn w d) os)=.ok (.tuple #[.int .i64 0,.bool false]) (grow (redrawn w d) os):=λd os=>
 (pE (T:=120) (et:=3) (P:=Tryz.prog) Tryz.underlying120 gU (z:=.int .i64 0) (λw=>by kernel_rfl) (h.below (below_regrown w d os) h.lt) (k:=k) a true).trans rfl
theorem aaT{X:CX}(a:t.a=1)(c:Nat)(S:Ck):X.one t c S=some (me S t.n):=by unfold CX.one xW;rw[aq a]
theorem aaU{X:CX}(a:t.a=2)(c:Nat)(S:Ck):X.one t c S=some ((gQ S 2 0 []).1,S.g.length):=by unfold CX.one xW;rw[ah (by omega),aq a];rfl
theorem SX{X:CX}(g:jb X t.one)(a:t.a=2):BC X 240 t:=by
 intro Z S c tv w h i b j;obtain⟨sv,rfl,f⟩:=j;obtain⟨k,sc,rfl⟩:=f.slice;have l:t.size=1:=by unfold Nd.size;rw[g.leaf (.inr a)];rfl
 rw[aaU a,l];have d:=Below.cA w (.cells #[.int .i64 t.a,.int .i64 t.n,.slice k t.k.len sc] 54);obtain⟨m,n,o⟩:=h_3 (Aq (h.below d) (by have:=b.2.2;omega)) (dm.kp X d) b;clear h i b f d a
 go_enter Tryz.func240,Tryz.ntmps240
 go_wp2_with fail
 refine m.o.mono ?_;rintro e r ⟨b,rfl,d⟩;have f:=hI (n.o.trans b);have i:=hI (OS d (by have:=o.o.1;omega));clear b d
 go_wp2_with fail
 refine i.o.mono ?_;rintro e s ⟨b,rfl,d⟩;have p:=hI (f.o.trans b);have q:=hI d;clear b d;go_wp2;go_ret;exact⟨p.o,rfl,q.o⟩
def vG(w:World)(q:Nat)(t:Nd)(a:Option Addr)(sc:Nat):Prop:=w.heap[q]? =some (.cells #[.int .i64 t.a,.int .i64 t.n,.slice a t.k.len sc] 54 (0,0))
theorem vG.cells{a:Option Addr}{sc:Nat}(h:vG w q t a sc):w.cell? ⟨q,0,none⟩=some (.int .i64 t.a)/\w.cell? ⟨q,1,none⟩=some (.int .i64 t.n)/\w.cell? ⟨q,2,none⟩=some (.slice a t.k.len sc):=
 ⟨by rw[cell_of_row _ _ _ _ _ _ h];rfl,by rw[cell_of_row _ _ _ _ _ _ h];rfl,by rw[cell_of_row _ _ _ _ _ _ h];rfl⟩
theorem vG.keep{X:CX}{w':World}{a:Option Addr}{sc:Nat}(b:vG w q t a sc)(h:dm X Z w S c)(d:X.Kp w w'):vG w' q t a sc:=h.stays d b (by decide) (by decide) (by unfold Ic;decide)
theorem vG.below{w':World}{a:Option Addr}{sc:Nat}(b:vG w q t a sc)(c:Below w.heap.size w w'):vG w' q t a sc:=cY c b
theorem iA.free{X:CX}(h:iA X S):iA X (bP S).1:=h.step ((PW h.ok.low).later _ _ rfl) (Aj S)
theorem iA.node{X:CX}(h:iA X S){s:Int}(a:s=2\/s=3\/s=4)(n:Int){parts:List Nat}(hp:∀p∈parts,p<S.g.length)(b:parts.length<=1000:=by first|(simp;done)|assumption):iA X (gQ S s n parts).1:=h.step ((ZL h.ok.low hp (by omega) (by omega)).later _ _ rfl) (rW S a b)
theorem lU(S:Ck)(s n:Int)(ps:List Nat):(gQ S s n ps).1.g.length=S.g.length+1:=dS _ _
theorem iN(S:Ck):(bP S).1.g.length=S.g.length+1:=dS _ _
theorem Fj(w:World)(a b:Nat):dw (w.alloc (.cells #[.int .i64 (a:Nat),.int .i64 (b:Nat)] 3)) (.slice (some ⟨w.heap.size,0,none⟩) 2 2) [a,b]:=dw.U3 (xs:=[a,b]) (a_ w (.cells #[.int .i64 (a:Nat),.int .i64 (b:Nat)] 3)) (by simp)
theorem SZ{X:CX}(b:Ds X)(a:jb X t.k){ws:List Nat}{S':Ck}{u:Unit}(d:iA X S)(hw:∀x∈ws,x<S.g.length)(e:nB (X.ks t.k) ws c S=some (S',u)):iA X S'/\dY S S'/\nu S S' (1000*t.k.size):=by
 have f:tW (X.ks t.k):=vE rX b.sm t.k (jA a.nodes).2 a.sm;have l:dY S S':=QO (a.fo.ksL b.con) d.ok hw e;have s:=vD f e;rw[show yE (X.ks t.k)=t.k.size from qd true er X.C t.k]at s;exact⟨d.step l s,l,s⟩
theorem cU.setEnv{X:CX}{gv:Value}{ps:List Value}{uv:Value}{up:List Value}(h:cU X Z w S c r gv ps uv up){o:Obj}{g:En}
 (hm:eu eT (w.putObj X.eb o) X.eb (λn=>if 0<=n then(look g n).map nV else none)) (m:∀f,0<=f->look g (-1-f)=look S.env (-1-f)):
 cU X Z (w.putObj X.eb o) { S with env:=g} c r gv ps uv up/\X.Kp w (w.putObj X.eb o):=by
 obtain⟨v,x,p,y,s,z,n7,n8,u⟩:=h.ne;have i:∀(q:Nat) (o':Obj),w.heap[q]? =some o'->q≠X.eb->(w.putObj X.eb o).heap[q]? =some o':=λq o' a eC=>(aA eC).trans a;obtain⟨_,_,he⟩:=h.env.obj;have l:∀(q:Nat) (cur:Array Value) (t:TypeId) (f:Nat×Nat),w.heap[q]? =some (.cells cur t f)->(w.putObj X.eb o).heap[q]? =some (.cells cur t f):=λq cur t f d=>i _ _ d λe=>by rw[e,he]at d;cases d
 have k:tX Z w (w.putObj X.eb o):=λb cur f j _=>l _ _ _ _ j;have j:Below X.B w (w.putObj X.eb o):=dI bR (by have:=h.hB;have:=h.SW;omega) o;refine⟨⟨i _ _ h.fW p,h.gr.js h.sep.left.left (λo' a=>i _ _ a s) (λq o' d a=>i _ _ a λe=>u (by rw[d,e])) k,?_,hm,h.us.keep h.sep.left.right (λq cur d=>l _ _ _ _ d) k,h.md.below j lR,h.ty.below j lR,h.kc.js h.sep.right k,h.sep,h.hB,h.xR,h.xe,h.SW,h.eC,λq d=>by simpa using h.uq q d⟩,?_⟩
 ·refine(h.own.same λo' a=>i _ _ a h.eC).congr λf=> ?_;by_cases j:0<=f
  ·simp only[aq j,m f j]
  ·simp only[ah j]
 ·exact⟨rfl,rfl,rfl,by simp,λq o' a j _=>i _ _ a λe=>j (.inr (.inr (.inr e)))⟩
theorem Xm{e:En}{n:Int}(a:0<=n)(m:Nat):∀f,0<=f->look ((n,m)::e) (-1-f)=look e (-1-f):=λf b=>by rw[dn,ah (by omega)]
theorem cU.Xn{X:CX}{gv:Value}{ps:List Value}{uv:Value}{up:List Value}(h:cU X Z w S c r gv ps uv up){n:Int}(b:0<=n)(m:Nat):
 ∃o,(Instr.mapUpdate 120 (.map (some X.eb)) (.int .i64 n) (.int .i64 (m:Nat))).run Tryz.prog w=.ok () (w.putObj X.eb o)/\cU X Z (w.putObj X.eb o) { S with env:=(n,m)::S.env} c r gv ps uv up/\X.Kp w (w.putObj X.eb o):=by
 obtain⟨o,e,hm,_⟩:=run_set (T:=120) (et:=3) (P:=Tryz.prog) Tryz.underlying120 gU h.env n (nV m);refine⟨o,e,h.setEnv (hm.congr λj=> ?_) (Xm b m)⟩;rw[dn];by_cases a:j=n
 ·subst a;simp only[if_true,aq b];rfl
 ·have d:¬n=j:=λe=>a e.symm;simp only[ah a,ah d]
theorem S5{n:Int}{m:Nat}(h:look S.env n=some m):me S n=(S,m):=by unfold me;rw[h]
theorem Ig{n:Int}(h:look S.env n=none):me S n=({ (bP S).1 with env:=(n,S.g.length)::S.env},S.g.length):=by unfold me;rw[h];rfl
theorem Mg{X:CX}(r:jb X t.one)(p:t.a=1):BC X 239 t:=by
 intro Z S c tv w h F d N;obtain⟨sv,rfl,E⟩:=N;obtain⟨s,sc,rfl⟩:=E.slice;have f:t.size=1:=by unfold Nd.size;rw[r.leaf (.inl p)];rfl
 have g:=r.var (.inl p);rw[aaT p,f];have b:=Below.cA w (.cells #[.int .i64 t.a,.int .i64 t.n,.slice s t.k.len sc] 54);have i:vG (w.alloc (.cells #[.int .i64 t.a,.int .i64 t.n,.slice s t.k.len sc] 54)) w.heap.size t s sc:=a_ _ _;obtain⟨H,I,O,J,H1,u⟩:=h_6 (Aq (h.below b) (by have:=d.2.2;omega)) (dm.kp X b) d i (h.below b) g;clear h F d E b p i f r g;cases a:look S.env t.n with
 |some m=>
  rw[S5 a];have x:=hI a;clear a
  go_enter Tryz.func239,Tryz.ntmps239
  go_wp2_with fail
  refine H.o.mono ?_;rintro e P ⟨f,rfl,g⟩
  try clear c0 b
  have c0:=g.c0;have b:=af c0;obtain⟨q,y,i⟩:=h_3 (J.o.keep H1.o f) (I.o.trans f) g;clear f g;have c7:=i.o.c7;have t1:=q.o.cells.2.1;have j:=af t1;obtain⟨r2,z,Q,A,B,l⟩:=i.o;have a:=l.env.Me (k:=t.n) (v:=nV m) (by rw[aq u.o,x.o];rfl);unfold nV at a;clear l
  go_wp2_with fail
  refine aM (by kernel_rfl) (by kernel_rfl) ?_
  repeat go_big_quiet_step (fail)
  refine wpQuiet_nil ?_;intro R d;have C:=hI (y.o.below d);have n:=hI (i.o.below d);clear d a t1 j c0 c7 b;go_wp2;go_ret;exact⟨C.o,rfl,n.o⟩
 |none=>
  rw[Ig a];have x:=hI a;clear a
  go_enter Tryz.func239,Tryz.ntmps239
  go_wp2_with fail
  refine H.o.mono ?_;rintro e P ⟨f,rfl,g⟩
  try clear c0 b
  have c0:=g.c0;have b:=af c0;obtain⟨q,y,i⟩:=h_3 (J.o.keep H1.o f) (I.o.trans f) g;clear f g;have c7:=i.o.c7;have t1:=q.o.cells.2.1;have j:=af t1;obtain⟨r2,z,Q,A,B,l⟩:=i.o;have a:=l.env.Mf (k:=t.n) (by rw[aq u.o,x.o];rfl);clear l
  go_wp2_with fail
  refine aM (by kernel_rfl) (by kernel_rfl) ?_
  repeat go_big_quiet_step (fail)
  refine wpQuiet_nil ?_;intro R d;obtain⟨C,n,D⟩:=h_3 (y.o.below d) (i.o.below d) (q.o.below d);clear d a t1 j c0 c7 b;have c0:=n.o.c0;have b:=af c0;have T:=hI (r7 n.o (by have:=O.o.1;omega))
  go_wp2_with fail
  refine T.o.mono ?_;rintro e w4 ⟨E,rfl,F⟩
  try clear c0 b
  have c0:=F.c0;have b:=af c0;obtain⟨G,U,K⟩:=h_3 (D.o.keep n.o E) (C.o.trans E) F;clear E F;have c7:=K.o.c7;have t1:=G.o.cells.2.1;have j:=af t1
  go_wp2_with fail
  refine gw 7 (by kernel_rfl) (by kernel_rfl) ?_;simp only[List.take_succ_cons,List.take_zero,List.drop_succ_cons,List.drop_zero]
  repeat go_big_quiet_step (fail)
  refine wpQuiet_nil ?_;intro w5 E;have V:=hI (U.o.below E);obtain⟨r5,W,Y,uv5,up5,F⟩:=K.o.below E;obtain⟨o,eo,L,M⟩:=F.Xn u.o S.g.length;have Fk:=hI (V.o.trans M);have H6:Hd (dm X Z _ _ _):=hI ⟨_,_,_,_,_,L⟩;clear F L M E t1 j c0 c7 b;go_wp2;go_ret;exact⟨Fk.o,rfl,H6.o⟩
end
section
open Go Go.RowKit Go.Sort
section
variable {P:Program} {ops:Array Oper} {Q:Exit->Act->World->Prop} {md:Region.Mode} {S:World->Prop} {n:Nat}
def mI(P:Program)(md:Region.Mode)(ops:Array Oper)(Q:Exit->Act->World->Prop)(S:World->Prop)(n:Nat)(T:Array Bool->Act->World->Prop):Nat->Array Bool->Act->World->Prop
 |0,listed,a,w=>T listed a w
 |f+1,listed,a,w=>Region.ready md ops listed≠[]/\∀i∈Region.ready md ops listed,i<n/\wpOp P ops Q i (λb w'=>S w'/\mI P md ops Q S n T f (listed.setIfInBounds i true) b w') a w
theorem Cn{g:Nat}{T:Array Bool->Act->World->Prop}(b:∀listed a w,T listed a w->wpAny P md ops Q g listed a w):∀(f:Nat) (listed:Array Bool) (a:Act) (w:World),mI P md ops Q S n T f listed a w->wpAny P md ops Q (f+g) listed a w
 |0,listed,a,w,h=>by rw[a8];exact b _ _ _ h
 |f+1,listed,a,w,h=>by
  rw[show f+1+g=(f+g)+1 by omega];exact⟨λc=>ay c h.1,λi hi=>wpOp_mono (λd w' h'=>Cn b f _ d w' h'.2) (h.2 i hi).2⟩
theorem OV{i:Nat}{l:Oper}{T:Array Bool->Act->World->Prop}(hi:ops[i]? =some l)(u:∀(j:Nat) (o:Oper) cs b,ops[j]? =some o->o.op≠.select cs b)
 (hs:Region.sinkB md ops n=true) (hc:Region.chainB md ops n=true) (hn:n<ops.size) (oF:i<n)
 (z:∀listed a w,T listed a w->∀j∈Region.ready md ops listed,n<=j) (A:∀c a w,Q (.panic c) (a.put l.dst v) w->Q (.panic c) a w):
 ∀(f:Nat) (listed:Array Bool) (a:Act) (w:World),HeadInv md ops n listed->
  (∀j m,ops[j]? =some m->j≠i->listed.getD j true=false->(∀e∈m.after,Region.binds md e=true->e.on≠i)->l.apart ops m=true)->
  i∈Region.ready md ops listed->YieldsIf P ops S l v a->S w->
  mI P md ops Q S n T f (listed.setIfInBounds i true) (a.put l.dst v) w->mI P md ops Q S n T (f+1) listed a w:=by
 intro f
 induction f with
 |zero=>
  intro listed a w inv _ d hy p H;have ux:=(mem_ready.1 d).1;refine⟨λh=>(by rw[h]at d;cases d),λj hj=> ?_⟩;have q:j<n:=by
   exact anb
  refine⟨q,?_⟩;by_cases g:j=i
  ·subst g;exact hy.wpOp hi p ⟨p,H⟩
  ·have:=z _ _ _ H j (ready_mono hj g);omega
 |succ f B=>
  intro listed a w inv x d hy p H;have ux:=(mem_ready.1 d).1;refine⟨λh=>(by rw[h]at d;cases d),λj hj=> ?_⟩;have q:j<n:=by
   exact anb
  refine⟨q,?_⟩;by_cases g:j=i
  ·subst g;exact hy.wpOp hi p ⟨p,H⟩
  ·have r:=(H.2 j (ready_mono hj g)).2;obtain⟨y,m,s,C⟩:=mem_ready.1 hj;have t:∀e∈m.after,Region.binds md e=true->e.on≠i:=λe he D heq=>by
    have r:=C e he D;rw[heq,getD_both ux]at r;cases r
   have E:=wpOp_putIf s (x j m s g y t) (λcs b=>u i l cs b hi) (λcs b=>u j m cs b s) A hy r;have F:∀k ok,ops[k]? =some ok->k≠i->(listed.setIfInBounds j true).getD k true=false->
    (∀e∈ok.after,Region.binds md e=true->e.on≠i)->l.apart ops ok=true:=λk ok I J ux K=>by
    refine x k ok I J ?_ K;by_cases G:j=k
    ·subst G;exact y
    ·rw[getD_set_ne true G]at ux;exact ux
   refine wpOp_mono (λI w' G=>⟨G.2.1,B (listed.setIfInBounds j true) I w' (inv.set hj q) F (ready_mono d (Ne.symm g)) G.1 G.2.1 ?_⟩) E;rw[Array.setIfInBounds_comm _ _ g];exact G.2.2
def Xo(md:Region.Mode)(ops:Array Oper)(n:Nat)(listed:Array Bool):Bool:=
 decide (listed.size=ops.size)&&((List.range ops.size).all λj=> !listed.getD j false||((ops[j]?).map (·.after.all λe=> !Region.binds md e||listed.getD e.on false)).getD true)&&(List.range ops.size).all λt=>decide (t<n)|| !listed.getD t true
theorem S6{listed:Array Bool}(h:Xo md ops n listed=true):HeadInv md ops n listed:=by
 unfold Xo at h;simp only[ak,decide_eq_true_eq,aK,bq,b7,Bool.not_eq_true']at h;obtain⟨⟨b,c⟩,d⟩:=h;refine⟨b,λj k a f e he g=> ?_,λt l i=> ?_⟩
 ·have:=c j (gE a).1;rw[f,a]at this;simp only[Bool.true_eq_false,false_or,Option.map_some,bK,Array.all_eq_true_iff_forall_mem,b7,Bool.not_eq_true']at this;rcases this e he with h|h
  ·rw[g]at h;cases h
  ·exact h
 ·rcases d t i with h|h
  ·omega
  ·exact h
def Fl(ops:Array Oper)(n i:Nat)(listed:Array Bool):Bool:=Region.noSelect ops&&Region.sinkB .any ops n&&Region.chainB .any ops n&&decide (n<ops.size)&&decide (i<n)&&Xo .any ops n listed&&Region.free .any ops listed i&&(Region.ready .any ops listed).contains i
def xI(P:Program)(ops:Array Oper)(Q:Exit->Act->World->Prop)(n:Nat)(listed:Array Bool)(a:Act)(w:World):Prop:=Region.seqB .any ops (ops.size-n) n listed=true/\wpList P ops Q (ops.toList.drop n) a w
theorem S7{i:Nat}{b:Oper}{listed:Array Bool}(hi:ops[i]? =some b)(hB:Fl ops n i listed=true)(d:∀c a w,Q (.panic c) (a.put b.dst v) w->Q (.panic c) a w)
 (hy:YieldsIf P ops S b v a) (e:S w) (h:mI P .any ops Q S n (xI P ops Q n) f (listed.setIfInBounds i true) (a.put b.dst v) w):mI P .any ops Q S n (xI P ops Q n) (f+1) listed a w:=by
 unfold Fl at hB;simp only[ak,decide_eq_true_eq]at hB;obtain⟨⟨⟨⟨⟨⟨⟨g,j⟩,k⟩,l⟩,m⟩,o⟩,p⟩,q⟩:=hB;exact OV hi (Region.noSelect_spec g) j k l m (λlisted a w r=>seqB_ready r.1) d f listed a w (S6 o) (Region.free_spec hi p) (by simpa using q) hy e h
theorem Xp{i:Nat}{o:Oper}{listed:Array Bool}(d:ops[i]? =some o)(hB:(decide (Region.ready .any ops listed=[i])&&decide (i<n))=true)
 (h:∀b:Act->World->Prop,Shut (∀a w,S w->(S w->mI P .any ops Q S n (xI P ops Q n) f (listed.setIfInBounds i true) a w)->b a w)->if Region.wanted o (yielded ops a.tmps)=true then Oper.wp P o a w b Q else b (a.put o.dst undef) w):
 mI P .any ops Q S n (xI P ops Q n) (f+1) listed a w:=by
 simp only[ak,decide_eq_true_eq]at hB;refine⟨by rw[hB.1];simp,λj c=> ?_⟩;rw[hB.1]at c;have:j=i:=by simpa using c
 subst this;exact⟨hB.2,wpOp_step d (λb e=>h b (λa w c g=>e a w ⟨c,g c⟩))⟩
theorem jQ{listed:Array Bool}(hB:Region.seqB .any ops (ops.size-n) n listed=true)(h:wpList P ops Q (ops.toList.drop n) a w):mI P .any ops Q S n (xI P ops Q n) 0 listed a w:=⟨hB,h⟩
theorem ff{id:Nat}(n:Nat)(hm:P.follows .mixedOrders=true)(f:n<ops.size)(c:S w.drew)
 (h:S w.drew->mI P .any ops Q S n (xI P ops Q n) n (Array.replicate ops.size false) a w.drew):(Code.region id ops true).wp P Q a w:=by
 refine wp_region_any hm ?_;have:=Cn (g:=ops.size-n) (λlisted d w' b=>by
  have e:=wpAny_of_seq (md:=.any) (Q':=Q) (ops.toList.drop n) n listed d w' (λj=>by rw[List.getElem?_drop];simp) (by simpa using b.1) b.2;simpa using e) n _ _ _ (h c)
 rw[show n+(ops.size-n)=ops.size by omega]at this;exact this
theorem oD{T:Array Bool->Act->World->Prop}{l:Array Bool}(R:World->Prop)(b:R W)(c:S W)(h:∀W',R W'->S W'->mI P md ops Q S n T f l a W'):mI P md ops Q S n T f l a W:=h W b c
theorem qH(i:Nat)(b:Oper){l d:Array Bool}{e:Act}(g:S w)(h:mI P .any ops Q S n (xI P ops Q n) f d e w)
 (hi:ops[i]? =some b:=by rfl) (hB:Fl ops n i l=true:=by kernel_rfl)
 (j:∀c a w,Q (.panic c) (a.put b.dst v) w->Q (.panic c) a w:=by exact λ_ _ _ h=>h)
 (hw:Region.wanted b (yielded ops a.tmps)=true:=by kernel_rfl)
 (hy:∀w,S w->(execOp a.eval b).run P w=.ok (.value v) w:=by
  intro w hSw
  try dsimp only at hSw
  try replace hSw:=SL.o w hSw
  repeat (have hS1:=And.left hSw;replace hSw:=And.right hSw)
  go_simp
  try with_reducible rfl)
 (k:l.setIfInBounds i true=d:=by first|(simp only[bG,bU,bV];first|done|rfl)|rfl)
 (m:a.put b.dst v=e:=by first|(simp only[Act.put,bG,bU,bV];first|done|rfl)|rfl):mI P .any ops Q S n (xI P ops Q n) (f+1) l a w:=by
 subst k m;exact S7 hi hB j (Or.inl ⟨hw,hy⟩) g h
theorem qO(i:Nat)(o:Oper){l c:Array Bool}
 (h:∀b:Act->World->Prop,Shut (∀a w,S w->(S w->mI P .any ops Q S n (xI P ops Q n) f c a w)->b a w)->if Region.wanted o (yielded ops a.tmps)=true then Oper.wp P o a w b Q else b (a.put o.dst undef) w)
 (hi:ops[i]? =some o:=by rfl) (hB:(decide (Region.ready .any ops l=[i])&&decide (i<n))=true:=by kernel_rfl)
 (b:l.setIfInBounds i true=c:=by first|(simp only[bG,bU,bV];first|done|rfl)|rfl):mI P .any ops Q S n (xI P ops Q n) (f+1) l a w:=by
 subst b;exact Xp hi hB h
end
attribute [local go_sem] aT cW df nV uV
theorem Ih(S:Ck){a:Nat}(b:a<S.g.length):∀p∈[a,S.g.length],p<(bP S).1.g.length:=λp hp=>by
 rw[iN];simp only[aE,List.not_mem_nil,or_false]at hp;omega
theorem QZ(S:Ck)(f a:Nat):zz S f a=eG (wN (gQ (bP S).1 3 0 [a,S.g.length]).1 f (bP S).1.g.length) λS' _=>some (S',S.g.length):=by
 have e:zz S f a=(match wN (gQ (bP S).1 3 0 [a,S.g.length]).1 f (bP S).1.g.length with|none=>none|some (S',_)=>some (S',(bP S).2)):=rfl;rw[e];cases wN (gQ (bP S).1 3 0 [a,S.g.length]).1 f (bP S).1.g.length with
 |none=>rfl
 |some q=>rfl
end
section
open Go Go.RowKit
structure Xq (P:Program) (t e:TypeId) (size bytes:Nat):Prop where
 und:P.underlying t=some (.slice e)
 info:∃i z,P.info? e=some i/\i.zero=some z/\i.size=size/\i.bytes=bytes/\z.cells.size=size
 pos:0<size
 byt:bytes<=100000
section
variable {P:Program} {w:World} {o:Oper} {a:Act} {K:Act->World->Prop} {Q:Exit->Act->World->Prop} {t e:TypeId} {size bytes:Nat}
theorem JF(b:Xq P t e size bytes)(s x:Operand)(d:o.op=.call { callee:=.builtin .append,args:= #[s,x],argTypes:= #[t,t]}){base:Nat}{xs us:List Value}(f:a.eval s=v)(g:w.ownsRow base e size v n xs)
 (k:a.eval x=.slice (some ⟨q,0,none⟩) 1 1) (l:w.heap[q]? =some (.cells us.toArray e (0,0))) (m:us.length=size) (p:∀u∈us,u.oneCell'=true) (r:n+1<=1000000000) (y:base<=w.heap.size)
 (h:∀v' w',w'.ownsRow base e size v' (n+1) (xs++us)->w.grownBy w' v.ownBlock->(v'.ownBlock=v.ownBlock\/v'.ownBlock=some w.heap.size)->K (a.put o.dst v') w'):o.wp P a w K Q:=by
 obtain⟨i,z,hi,A,B,C,c⟩:=b.info;have D:=b.byt;obtain⟨v',w',E,F,G,J,H⟩:=run_append_own_at (P:=P) w base t o.type e i z size bytes b.und hi A B C c b.pos v n xs g ⟨q,0,none⟩ 1 1 us (by rw[m,Nat.one_mul]) (λj u I=>by
  rw[Addr.add_lit,a8,cell_of_row _ _ _ _ _ _ l,aF];exact I) p (by unfold maxLen;omega) (by
  calc (n+1)*bytes<=1000000000*100000:=Nat.mul_le_mul r D
   _<=140737488355328:=by decide) y
 unfold Oper.wp execOp;simp only[d,resolve,invoke,builtin,bB,Sem.run_pure,bg,List.map_toArray,bz,List.map_nil,f,k,E];exact h v' w' F G H
theorem lM{ops:Array Oper}{rest:List Oper}(b:o.guard=none)(c:Xq P t e size bytes)(s x:Operand)(d:o.op=.call { callee:=.builtin .append,args:= #[s,x],argTypes:= #[t,t]}){base:Nat}{xs us:List Value}(f:a.eval s=v)(g:w.ownsRow base e size v n xs)
 (i:a.eval x=.slice (some ⟨q,0,none⟩) 1 1) (j:w.heap[q]? =some (.cells us.toArray e (0,0))) (k:us.length=size) (l:∀u∈us,u.oneCell'=true) (m:n+1<=1000000000) (p:base<=w.heap.size)
 (h:∀v' w',w'.ownsRow base e size v' (n+1) (xs++us)->w.grownBy w' v.ownBlock->(v'.ownBlock=v.ownBlock\/v'.ownBlock=some w.heap.size)->wpList P ops Q rest (a.put o.dst v') w'):wpList P ops Q (o::rest) a w:=
 wpList_plain b λ_ r=>JF c s x d f g i j k l m p λv' w' y z A=>r _ _ (h v' w' y z A)
end
theorem aeh{b0 s:Nat}{t:TypeId}{a:Value}{xs:List Value}(h:w.ownsRow b0 t s a n xs):∀q,a.ownBlock=some q->q<w.heap.size:=λq b=>(iI h q b).2
attribute [local go_sem] aT cW df
theorem Fm{V:Type}{vf:Gr->V->Int->(Gr×V)×Nat}{P:Int->Prop}{E D:Nat->Prop}{St:V->World->Prop}{base x:Nat}{gf:Nat}{caps:Array Value}
 (hgf:∀args w,(callFunc gf args).run Tryz.prog w=.ok (.enter gf args) w) (Es:∀g v x,(vf g v x).1.1.length<=g.length+1) (hBb:B<=base)
 (Q:∀q,E q->D q) (H:∀v W,St v W->∀q,E q->B<=q/\∃es c,W.heap[q]? =some (.map es c))
 (I:∀v W,St v W->∀q,D q->∃o,W.heap[q]? =some o/\I5 jU o)
 (C:∀v W W',St v W->(∀q o,D q->W.heap[q]? =some o->W'.heap[q]? =some o)->St v W')
 (kH:∀(g:Gr) (v:V) (n:Int) (W:World) (r:Option Nat) (gv:Value) (ps:List Value),P n->ed jU W base x g r gv ps->base<=W.heap.size->g.length<=999999999->St v W->Calls Tryz.prog gf (#[.int .i64 n]++caps) W λe W'=>
  e=.returned (.int .i64 ((vf g v n).2:Nat))/\∃r' K d,ed jU W' base x (vf g v n).1.1 r' K d/\jy W ps d/\St (vf g v n).1.2 W'/\m_ E x r r' W W'):
 ∀(m:Nat) (t:Nd) (g:Gr) (v:V) (tv:Value) (w:World) (r:Option Nat) (gv:Value) (ps:List Value),t.size<=m->cV w B tv t->t.one.nr->(∀x,t.one.has x->P x)->ed jU w base x g r gv ps->base<=w.heap.size->g.length+t.size<=1000000000->St v w->
  Calls Tryz.prog 73 #[.pointer (some ⟨x,0,none⟩),tv,.func (.func gf) #[] caps] w λe w'=>
   e=.returned (.int .i64 ((dO vf t.one g v).2.headD 0:Nat))/\∃r' K d,ed jU w' base x (dO vf t.one g v).1.1 r' K d/\jy w ps d/\St (dO vf t.one g v).1.2 w'/\m_ E x r r' w w'
 |0,t,_,_,_,_,_,_,_,h,_,_,_,_,_,_,_=>ay h (by unfold Nd.size;omega)
 |m+1,⟨a,n,k⟩,g,v,tv,w,r,gv,ps,hm,hv,hk,hP,Z,oG,hl,dW=>by
  obtain⟨kv,rfl,uA⟩:=hv;have hks:=uA.small;have fK:k.len<=1000000000:=by have:=k.nE;unfold Nd.size at hl;simp only at hl;omega
  obtain⟨ka,kc,rfl⟩:=uA.slice;have hxs:=Z.lt.1;have L:=Below.cA w (.cells #[.int .i64 a,.int .i64 n,.slice ka k.len kc] 26);have R:=mR.cB x r L;have Oh:=C v w _ dW (λq o _ l=>(L.block q (gE l).1).trans l);by_cases M:a=1
  ·have U:P n:=hP n (by show Fo.has (.cons a n k .nil) n;unfold Fo.has;rw[aq M];exact .inl rfl);obtain⟨N,z,T8⟩:=h_3 (kH g v n _ r gv ps U (Z.below L) (by simp;omega) (by unfold Nd.size at hl;omega) Oh) (R.toX E) L.size;rw[QF k g v M];subst M;clear dW Oh Z kH C I H Q hk hP uA L R hm hl Es
   go_enter Tryz.func73,Tryz.ntmps73
   go_wp2_with fail
   refine N.o.mono ?_;rintro e A ⟨rfl,r',K,d,O,G,h3,h4⟩;have u:=hI (show _/\_/\_/\_ from⟨O,G.mono T8.o,h3,z.o.trans h4⟩);clear O G h3 h4;go_wp2;go_ret;exact⟨rfl,r',K,d,u.o.1,u.o.2.1,u.o.2.2.1,u.o.2.2.2⟩
  ·have K:a=2\/a=3\/a=4:=hk.1.resolve_left M;have ha2:(a==1)=false:=by rw[beq_eq_false_iff_ne];exact M
   rw[LG k g v M];obtain⟨QI,U,d,Sz,HG,HB,HL,fG,HK,HP,HA,HM⟩:=h_12 (Fm hgf Es hBb Q H I C kH m) (Z.below L) Oh uA Z oG hl dW hk hP K hm;obtain⟨HSE,HSD,J,Vh⟩:=h_4 H I C Es;have HPA:Hd (∀j,j<k.len->∀y,(k.at j).one.has y->P y):=hI λj hj y hy=>HP.o y (by show Fo.has (.cons a n k .nil) y;unfold Fo.has;rw[ah M];exact .inl (Fo.E1 hj hy));have HDL:Hd (∀q,D q->q<w.heap.size):=hI λq s=>by obtain⟨o,l,_⟩:=HSD.o v w fG.o q s;exact(gE l).1
   clear uA Z oG hl dW Oh hk hP K hm H I C Es kH M R
   go_enter Tryz.func73,Tryz.ntmps73
   go_wp2;refine eR (λY=>Below w.heap.size w Y/\Y.heap[w.heap.size]? =some (.cells #[.int .i64 a,.int .i64 n,.slice ka k.len kc] 26 (0,0))/\ed jU Y base x g r gv ps/\St v Y/\w.heap.size+1=Y.heap.size) ⟨L,a_ _ _,U.o,d.o,by simp⟩ ?_;rintro Y ⟨K,z,A,F,T⟩;obtain⟨S,HKY,HGY,Wk,HZY⟩:=h_5 K z A F T;clear K z A F T U d L;obtain⟨i0,hi,zW,sZ,xw⟩:=info_parts Tryz.BZ
   go_loopw [7,22] (λK i wr=>∃(j:Nat) (z:Gr) (d:V) (rj:Option Nat) (T:Value) (A:List Value) (ns:List Nat),j<=k.len/\i=.int .i64 j/\ns.length=j/\wr.ownsRow Y.heap.size 3 1 K j (cE (cX ns))/\ed jU wr base x z rj T A/\Sep A K.ownBlock/\jy Y ps A/\
    St d wr/\m_ E x r rj Y wr/\z.length+(k.drop j).size<=999999999/\dO vf k g v=((dO vf (k.drop j) z d).1,ns++(dO vf (k.drop j) z d).2)) (λ_ i _=>k.len-(intOf i).toNat)
   case atStart=>exact⟨0,g,v,r,gv,ps,[],aw _,rfl,rfl,aZ _ _ _ _,HGY.o,Sep.none _,jy.refl _ _,Wk.o,m_.refl _ _ _ _,by have:=HL.o;unfold Nd.size at this;rw[Fo.drop_zero];show g.length+k.size<=_;simp only at this;omega,by rw[Fo.drop_zero];rfl⟩
   case round=>
    obtain⟨j,z,d,rj,T,A,ns,hj,rfl,Ii,cO,EX,nZ,hpn,ahU,K,QD,OW⟩:=hrel;have hxY:=HG.o.lt;have Co:Hd (Below B w wr):=hI ((S.o.mono (by have:=HB.o;omega)).trans (K.toBelow (ai hBb HG.o.base) (λq s=>by obtain⟨_,_,h⟩:=HG.o.ey s;omega) (λq s=>(HSE.o v w fG.o q s).1) (by have:=HB.o;have:=S.o.size;omega)));have U:=K.same _ _ HKY.o (by omega) (λe=>by have:=hxY.2 _ e.symm;omega) (λe=>by have:=HDL.o _ (Q _ e);omega);have d0:=cZ U;have d1:=eY U;have z0:=af d0;clear U hxY;obtain⟨HN,HO,Oi,FU,HPN,SA,F,X,HOF⟩:=h_9 Ii cO EX nZ hpn ahU K QD OW;clear Ii cO EX nZ hpn ahU K QD OW;by_cases bO:j<k.len
    ·obtain⟨b,off,cap,p,pc,he,fF,c0,c1,c2,iS⟩:=dC Sz.o Co.o bO;cases he;have Gl:b<wr.heap.size:=by have:=Co.o.size;have:=HB.o;omega
     have dL:=hI bO;have OX:=Fo.mr bO;have sx:=Below.cA wr (.cells #[.int .i64 (k.at j).a,.int .i64 (k.at j).n,.slice p (k.at j).k.len pc] 26);have K:=J.o d wr _ SA.o (λq o _ l=>(sx.block q (gE l).1).trans l);have gP:(k.drop j).size=(k.at j).size+(k.drop (j+1)).size:=by rw[OX];rfl
     have N:=hI (QI.o (k.at j) z d _ _ rj T A (by have:=Fo.eD bO;have:=HM.o;unfold Nd.size at*;simp only at*;omega) ⟨_,rfl,iS.below sx (by have:=Co.o.size;have:=HB.o;omega)⟩ (Fo.Ol HK.o.2.1 bO) (HPA.o j bO) (Oi.o.below sx) (by have:=HB.o;have:=S.o.size;have:=F.o.size;simp;omega) (by have:=X.o;omega) K);have HGW:=hI (mC Vh.o (k.at j).one z d);have OZ:Hd (dO vf k g v=((dO vf (k.drop (j+1)) (dO vf (k.at j).one z d).1.1 (dO vf (k.at j).one z d).1.2).1,(ns++[(dO vf (k.at j).one z d).2.headD 0])++(dO vf (k.drop (j+1)) (dO vf (k.at j).one z d).1.1 (dO vf (k.at j).one z d).1.2).2)):=hI (by
      have:=HOF.o;rw[OX,LH]at this;rw[this,aG];rfl)
     obtain⟨akx,qW,T8⟩:=h_3 K sx gP;generalize dO vf (k.at j).one z d=q3 at N HGW OZ;obtain⟨⟨g3,v3⟩,l3⟩:=q3;obtain⟨U,qC⟩:=xE (l3.headD 0);simp only[<-qC]at N OZ;clear K sx gP OX iS qC
     go_wp2_with fail
     refine N.o.mono ?_;rintro e w3 ⟨rfl,r3,gv3,ps3,O,G,h3,h4⟩;have xh:=h4.qU (Oi.o.below qW.o) (by decide) (by decide) (λq cur t f s he=>by obtain⟨_,es,c,hm⟩:=HSE.o d _ akx.o q s;rw[hm]at he;cases he);have K:=nD (HO.o.alloc _) (λkk c hc=>xh kk c _ hc);have Gi:=FU.o.new G (λq s=>by have:=(iI HO.o q s).2;have:=qW.o.size;omega);obtain⟨B0,AM,H1,H3,CW,lZ⟩:=h_6 K Gi O h3 ((F.o.trans (m_.cB E x rj qW.o)).trans h4) (HPN.o.trans (G.mono qW.o.size) F.o.size);clear O G h3 h4 xh K Gi N
     go_wp2_with (at_builtin;refine wpList_append_own_at _ rfl _ _ 74 rfl Y.heap.size 3 i0 (.int .i64 0) 1 8 Tryz.underlying74 hi zW sZ xw rfl (by decide) _ _ _ rfl (B0.o.alloc _) ⟨w3.heap.size,0,none⟩ 1 1 [.int .i64 ((U:Nat):Int)] rfl rfl ?c1 ?c2 ?c3 ?c4 ?c5 ?_)
     case c1=>exact zI (a_ _ _)
     case c2=>exact one_one rfl
     case c3=>unfold maxLen;omega
     case c4=>omega
     case c5=>have:=CW.o.size;simp;omega
     intro v' w4 eM cJ _ mF;have K:=Below.cA w3 (.cells #[.int .i64 ((U:Nat):Int)] 3);have Ux:=B0.o.alloc (.cells #[.int .i64 ((U:Nat):Int)] 3);have hg4:=(H1.o.below K).grown (by decide) (by decide) Ux cJ AM.o;have Lz:Sep ps3 v'.ownBlock:=by
      rcases mF with e|e
      ·rw[e];exact AM.o
      ·exact Sep.Ca (H1.o.below K) (λq s=>by rw[e]at s;cases s;simp)
     have ahV:=J.o v3 w3 w4 H3.o (λq o s l=>(cJ.block q (by have:=(gE l).1;have:=K.size;omega) (λe=>by have:=(iI B0.o q e.symm).1;have:=HDL.o q s;have:=HZY.o;omega)).trans ((K.block q (gE l).1).trans l));have hm4:=(CW.o.below K).grown cJ (λq e=>(iI B0.o q e).1);rw[show cE (cX ns)++[.int .i64 ((U:Nat):Int)]=cE (cX (ns++[U]))by rw[kO,<-eZ];rfl]at eM;have u:=hI (show _/\_/\_/\_/\_ from⟨eM,hg4,Lz,ahV,hm4⟩);clear eM cJ mF K Ux hg4 Lz ahV hm4;go_wp2
     go_roundw
     case rel=>exact⟨j+1,g3,v3,r3,gv3,ps3,ns++[U],dL.o,by go_num,by rw[az,HN.o];rfl,u.o.1,u.o.2.1,u.o.2.2.1,lZ.o,u.o.2.2.2.1,u.o.2.2.2.2,(by have:=X.o;have:=T8.o;have:=HGW.o;have K:(Nd.one (k.at j)).size=(k.at j).size:=rfl;omega),OZ.o⟩
     case measure=>have:=dL.o;simp[intOf];omega
    ·obtain rfl:j=k.len:=by omega
     have CY:k.drop k.len=.nil:=Fo.ie lR;have OW:=HOF.o;rw[CY,Dp,bk]at OW;have aky:Hd (dO vf k g v=((z,d),ns)):=hI OW;obtain⟨pa,K,rfl⟩:=cr HO.o;have U:=Below.cA wr (.map vp 3);have HBM:=hI U;have SE:dw (wr.alloc (.map vp 3)) (.slice pa k.len K) ns:=(dw.pF HO.o (by rw[HN.o];exact hks)).keep (lT.cB U);have N:=hI (Dm (Oi.o.below U) (by have:=HB.o;have:=S.o.size;have:=F.o.size;simp;omega) (by have:=X.o;omega) a (xm a) n rfl _ ns SE);have RP:=hI (J.o d wr _ SA.o (λq o _ l=>(U.block q (gE l).1).trans l));have CT:= @run_makeMap Tryz.prog;have m0:=gI (P:=Tryz.prog) wr (t:=189) (#[]:Array MapEntry) 0 (.int .i64 2) (.int .i64 1) Tryz.underlying189 (λ_=>by kernel_rfl) (λ_=>by kernel_rfl);have m1:=gI (P:=Tryz.prog) wr (t:=189) (#[⟨.int .i64 2,.int .i64 1,0⟩]:Array MapEntry) 1 (.int .i64 3) (.int .i64 2) Tryz.underlying189 (λ_=>by kernel_rfl) (λ_=>by kernel_rfl);have m2:=gI (P:=Tryz.prog) wr (t:=189) (#[⟨.int .i64 2,.int .i64 1,0⟩,⟨.int .i64 3,.int .i64 2,1⟩]:Array MapEntry) 2 (.int .i64 4) (.int .i64 3) Tryz.underlying189 (λ_=>by kernel_rfl) (λ_=>by kernel_rfl);have ml:=aaD wr HA.o;unfold vp at ml;clear CY OW U SE
     go_wp2_with fail
     refine N.o.mono ?_;rintro e w5 ⟨rfl,r5,v5,O,G⟩;have U:=J.o d _ w5 RP.o (λq o s l=>by obtain⟨o',ho',hn'⟩:=HSD.o d _ RP.o q s;rw[ho']at l;cases l;exact G.keep (Oi.o.below HBM.o) ho' hn');have hm5:=((m_.cB E x r S.o).trans (F.o.below HBM.o)).trans (G.toX E);have hp5:jy w ps (A++[.slice pa k.len K]):=(HPN.o.mono S.o.size).trans (jy.one λq n c e _=>by cases e;exact(iI HO.o _ rfl).1) S.o.size;have u:=hI (show _/\_/\_/\_ from⟨O,hp5,U,hm5⟩);clear O G U hm5 hp5 m0 m1 m2 ml;go_wp2;go_ret;rw[aky.o];exact⟨rfl,r5,v5,_,u.o.1,u.o.2.1,u.o.2.2.1,u.o.2.2.2⟩
end
section
open Go Go.RowKit Go.Sort
attribute [local go_sem] aT cW df nV uV
theorem tu:∀(F:Fo) (o:Int),-1<=o->(∀x,F.has x->0<=x)->F.plain->(iU F).foldl nM o=max o ((F.i_:Int)-1)
 | .nil,o,h,_,_=>by unfold iU Fo.i_;simp only[List.foldl_nil];omega
 | .cons a n k r,o,h,hp,b=>by
  unfold Fo.plain at b;unfold Fo.has at hp;unfold iU Fo.i_;rw[List.foldl_cons,List.foldl_append];by_cases c:a=1
  ·simp only[aq c]at hp |-;have e:=b.1 c;subst e;have f:=hp n (.inl rfl);have hm:nM o ⟨a,n,.nil⟩=max o n:=by unfold nM;rw[aq c]
   rw[hm];show(iU r).foldl nM (max o n)=_;rw[tu r _ (by omega) (λx d=>hp x (.inr d)) b.2.2];omega
  ·simp only[ah c]at hp |-;have hm:nM o ⟨a,n,k⟩=o:=by unfold nM;rw[ah c]
   rw[hm,tu k o h (λx d=>hp x (.inl d)) b.2.1,tu r _ (by omega) (λx d=>hp x (.inr d)) b.2.2];omega
theorem Xt(T:Nd):iU T.one=dM T:=by
 show(⟨T.a,T.n,T.k⟩::(iU T.k++[]):List Nd)=T::iU T.k;rw[bk]
theorem aaV{T:Nd}(h:T.ok):pY T+1=(T.i_:Int):=by
 have:=tu T.one (-1) (by omega) h.var h.plain;rw[Xt,Nd.nz]at this;unfold pY;rw[this];omega
theorem yJ:∀(k:Nat) (S:Ck),b9 (k+1) S=((bP (b9 k S).1).1,(b9 k S).2++[(b9 k S).1.g.length])
 |0,S=>rfl
 |k+1,S=>by
  have a:=yJ k (bP S).1;have b:b9 (k+2) S=((b9 (k+1) (bP S).1).1,(bP S).2::(b9 (k+1) (bP S).1).2):=rfl;have c:b9 (k+1) S=((b9 k (bP S).1).1,(bP S).2::(b9 k (bP S).1).2):=rfl;rw[b,a,c];rfl
def xJ(g:Gr)(ps:List Nat)(x:Int):(Gr×List Nat)×Nat:=((g,ps),ps[x.toNat]?.getD 0)
theorem r9:∀(F:Fo) (g:Gr) (ps:List Nat),(∀x,F.has x->x.toNat<ps.length)->dO l7 F g ps=dO xJ F g ps
 | .nil,_,_,_=>rfl
 | .cons a n k r,g,ps,hp=>by
  rw[p8,p8];unfold Fo.has at hp;by_cases c:a=1
  ·simp only[aq c]at hp |-;have d:n.toNat+1-ps.length=0:=by have:=hp n (.inl rfl);omega
   have e:l7 g ps n=xJ g ps n:=by unfold l7 xJ;rw[d];rfl
   have f:(xJ g ps n).1=(g,ps):=rfl;rw[e,f,r9 r g ps λx b=>hp x (.inr b)]
  ·simp only[ah c]at hp |-;have d:=rL k g ps λx b=>hp x (.inl b);have f:=r9 k g ps λx b=>hp x (.inl b);rw[f]at d |-;rw[d,r9 r _ ps λx b=>hp x (.inr b)]
theorem Tryz.aaW:(Tryz.prog.info? 177).map (λi=>(i.zero,i.size,i.bytes))=some (some (.agg #[.int .i64 0,.int .i64 0,.slice none 0 0]),3,40):=by kernel_rfl
theorem Cp:Xq Tryz.prog 74 3 1 8:=by
 obtain⟨i,hi,a,b,c⟩:=info_parts Tryz.BZ;exact⟨Tryz.underlying74,⟨i,_,hi,a,b,c,rfl⟩,by decide,by decide⟩
theorem ahX:Xq Tryz.prog 150 177 3 40:=by
 obtain⟨i,hi,a,b,c⟩:=info_parts Tryz.aaW;exact⟨Tryz.underlying150,⟨i,_,hi,a,b,c,rfl⟩,by decide,by decide⟩
section
variable {X:CX} {Z:Nat->Prop} {w w':World} {S:Ck} {c:Nat} {r:Option Nat} {gv:Value} {ps:List Value} {uv:Value} {up:List Value}
theorem Ij(h:cU X Z w S c r gv ps uv up)(b:S.g.length<=1000000000):
 Calls Tryz.prog 71 #[.pointer (some ⟨X.gx,0,none⟩)] w λe w'=>e=.returned (.int .i64 (S.g.length:Nat))/\∃r' d f,cU X Z w' (bP S).1 c r' d f uv up/\mR X.gx r r' w w':=by
 refine(Bp h.gr h.lt.2.2 b).mono ?_;rintro e w' ⟨rfl,r',v',d,hm⟩;exact⟨rfl,r',v',_,h.graph hm d (h.sep.left.left.append λp hp a n c e f=>by rw[aJ.1 hp]at e;cases e),hm⟩
theorem CX.Kp.grow{X:CX}{w1 b:World}(h:X.Kp w w1){o:Option Nat}(a:w1.grownBy b o)(d:∀q,o=some q->w.heap.size<=q):X.Kp w b:=
 ⟨a.os.trans h.os,a.tape.trans h.tape,a.output.trans h.output,ai h.size a.size,λq ob e f g=>by
  have c:=h.same q ob e f g;exact(a.block q (gE c).1 (λi=>by have:=d q i.symm;have:=(gE e).1;omega)).trans c⟩
theorem cU.Xu(h:cU X Z w S c r gv ps uv up){o:Nat}{cur:Array Value}{t:TypeId}{f:Nat×Nat}(x:w.heap[q]? =some (.cells cur t f))(y:t≠3)(z:t≠152)(A:t≠110)(B:t≠193)(C:uv.ownBlock≠some q)(hB:X.B<=q):
 cU X Z (w.setCell ⟨q,o,none⟩ v) S c r gv ps uv up:=by
 have s:∀k ob,w.heap[k]? =some ob->k≠q->(w.setCell ⟨q,o,none⟩ v).heap[k]? =some ob:=λk ob a eC=>(au _ _ _ _ eC).trans a;have l:∀(k:Nat) (d:Array Value) (j:TypeId) (m:Nat×Nat),j≠t->w.heap[k]? =some (Obj.cells d j m)->(w.setCell ⟨q,o,none⟩ v).heap[k]? =some (Obj.cells d j m):=λk d j m eC a=>s _ _ a λe=>by
  rw[e,x]at a;cases a;exact eC rfl
 have u:∀{mb:Nat} {g:Int->Option Value},eu eT w mb g->eu eT (w.setCell ⟨q,o,none⟩ v) mb g:=λ{mb g} hm=>hm.setCell _ _;have a:tX Z w (w.setCell ⟨q,o,none⟩ v):=λb d m n _=>l _ _ _ _ (λe=>y e.symm) n;have n:Below X.B w (w.setCell ⟨q,o,none⟩ v):=bR.setCell (p:=⟨q,o,none⟩) hB v;refine⟨l _ _ _ _ (λe=>z e.symm) h.fW,h.gr.js h.sep.left.left (λob j=>by rw[h.gr.fW]at j;cases j;exact l _ _ jU.T _ (λe=>A e.symm) h.gr.fW) (λk ob D j=>by
  obtain⟨d,hc,_⟩:=h.gr.ey D;rw[hc]at j;cases j;exact l _ _ jU.V _ (λe=>B e.symm) hc) a,u h.own,u h.env,⟨h.us.len,⟨h.us.own.1,?_⟩,λi hi=>(h.us.parts i hi).js (h.sep.left.right.get i) a⟩,
  h.md.below n lR,h.ty.below n lR,h.kc.js h.sep.right a,h.sep,h.hB,h.xR,h.xe,h.SW,h.eC,λk a=>by simpa [World.setCell] using h.uq k a⟩
 rcases h.us.own.2 with E|⟨g',cap,d,rfl,F,G,rest⟩
 ·exact .inl E
 ·exact .inr ⟨g',cap,d,rfl,F,s _ _ G λe=>C (by rw[<-e];rfl),rest⟩
def ZR(Z:Nat->Prop)(nv:Value)(q:Nat):Prop:=Z q\/nv.ownBlock=some q
theorem cU.append{nv f:Value}{b0 j:Nat}{xs k:List Value}(h:cU X (ZR Z nv) w S c r gv ps uv up)(m:w.ownsRow b0 3 1 nv n xs)(l:w.grownBy w' nv.ownBlock)(o:f.ownBlock=nv.ownBlock\/f.ownBlock=some w.heap.size)
 (s:w'.ownsRow b0 3 1 f j k) (t:X.B<=b0):cU X (ZR Z f) w' S c r gv ps uv up:=by
 have d:=h.grown m l (λq b=>.inr b) t;refine⟨d.fW,d.gr,d.own,d.env,d.us,d.md,d.ty,d.kc,?_,d.hB,d.xR,d.xe,d.SW,d.eC,λq b=> ?_⟩
 ·rcases o with e|e
  ·intro p hp a n c g i b;exact h.sep p hp a n c g i (b.imp (λe=>e) λu=>by rw[<-e];exact u)
  ·intro p hp a j cc g i b;rcases b with b|b
   ·exact h.sep p hp a j cc g i (.inl b)
   ·have u:a.block<w.heap.size:=cU.aed h hp g i;rw[e]at b;have:=Option.some.inj b;omega
 ·rcases b with b|b
  ·exact aC (h.uq q (.inl b)) l.size
  ·exact aeh s q b
theorem cU.aek(h:cU X Z w S c r gv ps uv up){at_:Nat}{f:Int}{nv Xv:Value}{l:List Nat}(F:w'.ownsRow X.base 177 3 Xv (S.us.length+1) (wF S.us up++[.int .i64 (at_:Nat),.int .i64 f,nv]))(d:w.grownBy w' uv.ownBlock)(hp:dw w nv l)(A:lD Z [nv]):
 cU X Z (w'.setCell ⟨X.cx,10,none⟩ Xv) { S with us:=S.us++[(at_,f,l)]} c r gv ps Xv (up++[nv])/\X.Kp w (w'.setCell ⟨X.cx,10,none⟩ Xv):=by
 have hu:∀q,uv.ownBlock=some q->∃cur,w.heap[q]? =some (.cells cur 177 (0,0))/\X.base<=q:=λq e=>by
  rcases h.us.own.2 with⟨rfl,_⟩|⟨g',cap,cur,rfl,n,m,_⟩
  ·cases e
  ·cases e;exact⟨cur,m,n⟩
 have v:∀q o,w.heap[q]? =some o->some q≠uv.ownBlock->w'.heap[q]? =some o:=λq o a eC=>(d.block q (gE a).1 eC).trans a;have B:∀(q:Nat) (cur:Array Value) (t:TypeId) (f:Nat×Nat),t≠177->w.heap[q]? =some (Obj.cells cur t f)->w'.heap[q]? =some (Obj.cells cur t f):=λq cur t f x j=>v _ _ j λe=>by
  obtain⟨C,hc,_⟩:=hu q e.symm;rw[j]at hc;cases hc;exact x rfl
 have D:∀q o,w'.heap[q]? =some o->q≠X.cx->(w'.setCell ⟨X.cx,10,none⟩ Xv).heap[q]? =some o:=λq o a eC=>(au _ _ _ _ eC).trans a;have y:∀(q:Nat) (cur:Array Value) (t:TypeId) (f:Nat×Nat),t≠177->t≠152->w.heap[q]? =some (Obj.cells cur t f)->(w'.setCell ⟨X.cx,10,none⟩ Xv).heap[q]? =some (Obj.cells cur t f):=λq cur t f x z j=>D _ _ (B q cur t f x j) λe=>by
  rw[e,h.fW]at j;cases j;exact z rfl
 have E:∀{mb:Nat} {g:Int->Option Value},eu eT w mb g->eu eT (w'.setCell ⟨X.cx,10,none⟩ Xv) mb g:=λ{mb g} hm=>(hm.same λo a=>by
  obtain⟨es,cc,m⟩:=hm.obj;rw[m]at a;cases a;exact v _ _ m λe=>by
   obtain⟨C,hc,_⟩:=hu mb e.symm;rw[m]at hc;cases hc).setCell _ _
 have u:tX Z w (w'.setCell ⟨X.cx,10,none⟩ Xv):=λb cur f n _=>y _ _ _ _ (by decide) (by decide) n;have n:Below X.B w (w'.setCell ⟨X.cx,10,none⟩ Xv):=(Below.setCell (p:=⟨X.cx,10,none⟩) ⟨d.os,d.tape,d.output,d.size,λk m=>by
  refine d.block k (by have:=h.lt.2.2;have:=h.hB;omega) λe=> ?_;obtain⟨_,_,m⟩:=hu k e.symm;have:=h.hB;omega⟩ (by have:=h.hB;have:=h.xR;show X.B<=X.cx;omega) Xv)
 have s:=B _ _ _ _ (by decide) h.fW;refine⟨⟨?_,h.gr.js h.sep.left.left (λo a=>by rw[h.gr.fW]at a;cases a;exact y _ _ jU.T _ (by decide) (by decide) h.gr.fW) (λq o j a=>by
  obtain⟨cur,hc,_⟩:=h.gr.ey j;rw[hc]at a;cases a;exact y _ _ jU.V _ (by decide) (by decide) hc) u,E h.own,E h.env,⟨by simp[h.us.len],?_,λi hi=> ?_⟩,h.md.below n lR,h.ty.below n lR,h.kc.js h.sep.right u,?_,h.hB,h.xR,h.xe,h.SW,h.eC,λq j=>by simpa [World.setCell] using aC (h.uq q j) d.size⟩,?_⟩
 ·simp only[World.setCell,Array.getElem?_modify,if_true,s,Option.map_some]
  rfl
 ·rw[Ao h.us.len,az,aY];exact mi F s (by decide)
 ·by_cases m:i<S.us.length
  ·rw[bM (by rw[h.us.len];exact m),bM m];exact(h.us.parts i m).js (h.sep.left.right.get i) u
  ·have:i=S.us.length:=by simp at hi;omega
   subst this;rw[bo (by rw[h.us.len];exact lR),bo lR,h.us.len,Nat.sub_self];exact hp.js A u
 ·intro p m;rcases aQ.1 m with m|m
  ·rw[<-aG]at m;rcases aQ.1 m with m|m
   ·exact h.sep.left p m
   ·exact A p m
  ·exact h.sep.right p m
 ·refine⟨d.os,d.tape,d.output,by simpa [World.setCell] using d.size,λq o a G m=>D _ _ (v _ _ a λe=> ?_) λe=>G (.inl e)⟩;obtain⟨C,hc,H⟩:=hu q e.symm;rw[a]at hc;cases hc;rcases m with m|m
  ·omega
  ·exact m (.inr rfl)
end
theorem aaX(W:World)(q:Nat)(x0 x1 nv:Value)(l:List Nat)(n:Int)(c:W.heap[q]? =some (.cells #[x0,x1,nv] 177 (0,0)))(hi:dw W nv l)(f:0<=n)(g:n.toNat<l.length):
 Calls Tryz.prog 293 #[.int .i64 n,.pointer (some ⟨q,0,none⟩)] W λe W'=>e=.returned (.int .i64 ((l[n.toNat]?.getD 0:Nat):Int))/\W'=W:=by
 obtain⟨k,rfl⟩:∃k:Nat,n=k:=⟨n.toNat,by omega⟩;have a:k<l.length:=by omega
 have i:l.length<=140737488355328:=by obtain⟨_,_,_,_,_,h,_⟩:=hi;exact h
 obtain⟨b,off,cap,rfl,j,c0⟩:=hi.cell a;have c2:=fu c;have m:(k:Int)<(l.length:Int):=by omega
 have d:Hd ((l[k]?.getD 0:Nat)=(l[((k:Nat):Int).toNat]?.getD 0)):=hI (by rw[bw]);rw[<-d.o];generalize l[k]?.getD 0=x at c0;clear c hi f g d
 go_enter Tryz.func293,Tryz.ntmps293
 go_wp2;go_ret;exact⟨rfl,rfl⟩
theorem eu.Q0{mb:Nat}{f:Int->Option Value}(h:eu eT w mb f)(a:f k=some v):(Instr.lookup 120 (.map (some mb)) (.int .i64 k) true).run Tryz.prog w=.ok (.tuple #[v,.bool true]) w:=
 (lp (T:=120) (et:=3) (P:=Tryz.prog) Tryz.underlying120 gU h (k:=k) a true).trans rfl
theorem eu.Q1{mb:Nat}{f:Int->Option Value}(h:eu eT w mb f)(a:f k=none):(Instr.lookup 120 (.map (some mb)) (.int .i64 k) true).run Tryz.prog w=.ok (.tuple #[.int .i64 0,.bool false]) w:=
 (pE (T:=120) (et:=3) (P:=Tryz.prog) Tryz.underlying120 gU (z:=.int .i64 0) (λw=>by kernel_rfl) h (k:=k) a true).trans rfl
theorem ac5(l:List Nd)(i:Nat):(Fo.of l).at i=l[i]?.getD default:=by rw[Fo.v7,Fo.lF]
theorem CX.Xw(X:CX)(f:Nat):lf X.C (f:Int)=(Fo.of X.types).at f:=by rw[ac5];rfl
theorem lD.own{b0:Nat}{t:TypeId}{nv:Value}{xs:List Value}{s:Nat}(h:w.ownsRow b0 t s nv n xs)(b:∀q,Z q->q<b0):lD Z [nv]:=λp hp a f c e _ d=>by
 rw[aJ.1 hp]at e;have:=(iI h a.block (by rw[e];rfl)).1;have:=b _ d;omega
theorem jy.ael{ps b:List Value}(h:jy w ps b)(d:lD Z ps)(f:∀q,Z q->q<w.heap.size):lD Z b:=by
 obtain⟨l,rfl,g⟩:=h;exact d.append λp hp a n c e i j=>by have:=g p hp a n c e i;have:=f _ j;omega
theorem aem{X:CX}{gv:Value}{ps:List Value}{uv:Value}{up:List Value}(h:cU X Z w S c r gv ps uv up){ub b0:Nat}{x0 x1 nv:Value}{l:List Nat}
 (b:w.heap[ub]? =some (.cells #[x0,x1,nv] 177 (0,0))) (d:w.ownsRow b0 3 1 nv l.length (cE (cX l))) (m:l.length<=1000) {T:Nd} {tv:Value} (f:T.one.nr) (i:∀x,T.one.has x->0<=x/\x.toNat<l.length) (j:cV w X.B tv T) (k:S.g.length+T.size<=1000000000):
 Calls Tryz.prog 73 #[.pointer (some ⟨X.gx,0,none⟩),tv,.func (.func 293) #[] #[.pointer (some ⟨ub,0,none⟩)]] w
  (rf X Z w c nV (some ({ S with g:=(dO xJ T.one S.g l).1.1},(dO xJ T.one S.g l).2.headD 0))):=by
 refine(Fm (V:=List Nat) (vf:=xJ) (P:=λx=>0<=x/\x.toNat<l.length) (E:=λ_=>False) (D:=λq=>q=ub\/nv.ownBlock=some q) (St:=λv W=>v=l/\W.heap[ub]? =some (.cells #[x0,x1,nv] 177 (0,0))/\W.ownsRow b0 3 1 nv l.length (cE (cX l))) (base:=X.base) (x:=X.gx) (B:=X.B)
  (gf:=293) (caps:= #[.pointer (some ⟨ub,0,none⟩)]) (enters_of Tryz.func293 (by kernel_rfl) rfl) (λg v x=>Nat.le_succ _) h.hB (λq hq=>hq.elim) (λ_ _ _ q hq=>hq.elim) (λv W dW q hq=> ?_) (λv W W' dW hk=> ?_) (λg v n W r gv ps a hg e G dW=> ?_)
  T.size T S.g l tv w r gv ps lR j f i h.gr h.lt.2.2 k ⟨rfl,b,d⟩).mono ?_
 ·exact ane
 ·exact anx
 ·obtain⟨rfl,h1,h2⟩:=dW;refine(aaX W ub x0 x1 nv v n h1 (dw.pF h2 (by omega)) a.1 a.2).mono ?_;exact an0
 ·exact anL
abbrev ahZ:Oper:=⟨some 35,.fieldAddr 177 (.tmp 9) 2,0,cp,#[],none⟩
abbrev ah0:Oper:=⟨some 36,.load 74 (.tmp 35),74,cp,#[aj 0],none⟩
abbrev ah1:Oper:=⟨some 37,.move (.tmp 0),147,cp,#[],none⟩
abbrev ah2:Oper:=⟨some 38,.nilCheck (.tmp 37),0,cp,#[aj 2],none⟩
abbrev ah3:Oper:=⟨some 39,.fieldAddr 152 (.tmp 38) 0,0,cp,#[aj 3],none⟩
abbrev ah4:Oper:=⟨some 40,.load 107 (.tmp 39),107,cp,#[aj 4],none⟩
abbrev ah5:Oper:=⟨some 41,.call ⟨.value (.func 71),#[.tmp 40],#[107]⟩,3,cp,#[aj 5],none⟩
abbrev ah6:Oper:=⟨some 42,.buildSlice 74 1 #[(0,.tmp 41)],74,cp,#[aj 6],none⟩
abbrev ah7:Oper:=⟨some 43,.call ⟨.builtin .append,#[.tmp 36,.tmp 42],#[74,74]⟩,74,cp,#[aj 1,aj 7,ao 6],none⟩
abbrev ah8:Oper:=⟨some 44,.fieldAddr 177 (.tmp 9) 2,0,cp,#[al 0,al 1,al 2,al 3,al 4,al 5,al 6,al 7,al 8],none⟩
abbrev aen:Oper:=⟨none,.store 74 (.tmp 44) (.tmp 43),0,cp,#[aj 9,aj 8,ao 8,al 0,al 1,al 2,al 3,al 4,al 5,al 6,al 7,al 8],none⟩
def Xx:Array Oper:= #[ahZ,ah0,ah1,ah2,ah3,ah4,ah5,ah6,ah7,ah8,aen]
abbrev ah9:Oper:=⟨some 46,.move (.tmp 0),147,cw,#[],none⟩
abbrev ah_:Oper:=⟨some 47,.move (.tmp 0),147,cw,#[],none⟩
abbrev aia:Oper:=⟨some 48,.nilCheck (.tmp 47),0,cw,#[aj 1],none⟩
abbrev aib:Oper:=⟨some 49,.fieldAddr 152 (.tmp 48) 7,0,cw,#[aj 2],none⟩
abbrev aic:Oper:=⟨some 50,.load 150 (.tmp 49),150,cw,#[aj 3],none⟩
abbrev aid:Oper:=⟨some 51,.load 177 (.tmp 9),177,cw,#[],none⟩
abbrev aie:Oper:=⟨some 52,.buildSlice 150 1 #[(0,.tmp 51)],150,cw,#[aj 5],none⟩
abbrev aif:Oper:=⟨some 53,.call ⟨.builtin .append,#[.tmp 50,.tmp 52],#[150,150]⟩,150,cw,#[aj 4,aj 6],none⟩
abbrev aih:Oper:=⟨some 54,.nilCheck (.tmp 46),0,cw,#[aj 0,al 0,al 1,al 2,al 3,al 4,al 5,al 6,al 7],none⟩
abbrev aii:Oper:=⟨some 55,.fieldAddr 152 (.tmp 54) 7,0,cw,#[aj 8,al 0,al 1,al 2,al 3,al 4,al 5,al 6,al 7],none⟩
abbrev aeo:Oper:=⟨none,.store 150 (.tmp 55) (.tmp 53),0,cw,#[aj 9,aj 7,ao 7,al 0,al 1,al 2,al 3,al 4,al 5,al 6,al 7],none⟩
def Xy:Array Oper:= #[ah9,ah_,aia,aib,aic,aid,aie,aif,aih,aii,aeo]
theorem Mh{X:CX}(h:dm X Z w S c)(ho:iA X S)(R:∃c',Room S c' 1){at_:Nat}(hf:f<X.types.length)(hk:A5 X.C f)(U:CZ X.C f):
 Calls Tryz.prog 276 #[.pointer (some ⟨X.cx,0,none⟩),.int .i64 (f:Nat),.int .i64 (at_:Nat)] w (rf X Z w c nV (some (jd er X.C S at_ f))):=by
 obtain⟨c',R⟩:=R;obtain⟨r,gv,ps,uv,up,t⟩:=h;have c6:=t.at.c6;have H:=af c6;by_cases y:X.C.own f=true
 ·obtain⟨_,m,hm⟩:=ho.ok.own f y;have qE:=t.own.Q0 (k:=(f:Int)) (v:=nV m) (by rw[aq (by omega),hm];rfl);have Du:jd er X.C S at_ f=(S,m):=by unfold jd;rw[aq y,hm];rfl
  rw[Du];unfold nV at qE;have M:=hI (show dm X Z w S c from⟨r,gv,ps,uv,up,t⟩);clear t ho R hk U y hm Du
  go_enter Tryz.func276,Tryz.ntmps276
  go_wp2;go_ret;exact⟨iC.refl _,rfl,M.o⟩
 ·have s:look S.env (-1-(f:Int))=none:=ho.own f (by omega) (by simpa using y);have qE:=t.own.Q1 (k:=(f:Int)) (by rw[aq (by omega),s];rfl);obtain⟨G,J⟩:=U.resolve_left y;have Du:jd er X.C S at_ f=({ (er S (lf X.C f)).1 with us:=(er S (lf X.C f)).1.us++[(at_,(f:Int),(er S (lf X.C f)).2.2)]},(er S (lf X.C f)).2.1):=by unfold jd;rw[ah y]
  rw[Du,X.Xw f];rw[X.Xw f]at G J;obtain⟨T,N⟩:=xE ((Fo.of X.types).at f);rw[<-N]at G J |-;have Mi:=aaV G;obtain⟨n,a⟩:=xE T.i_;rw[<-a]at Mi;have alD:n<=100:=by rw[a];exact J.i_
  have c5:=t.at.c5;have O:f<(Fo.of X.types).len:=by rw[Fo.p7];exact hf
  obtain⟨d,P⟩:=qS w (.cells #[.int .i64 (at_:Nat),.int .i64 (f:Nat),.slice none 0 0] 177);have j:X.B<=w.heap.size:=ai t.hB t.lt.2.2;obtain⟨b,off,cap,p,pc,B,D,f0,f1,f2,g⟩:=dC t.ty (Below.refl X.B w) O;rw[<-N]at f0 f1 f2 g;rw[B]at c5;have zb:=af f0;have L:=hI (Sd T (.agg #[.int .i64 T.a,.int .i64 T.n,.slice p T.k.len pc]) (w.alloc (.cells #[.int .i64 (at_:Nat),.int .i64 (f:Nat),.slice none 0 0] 177)) X.B ⟨_,rfl,g.below d j⟩ (by have:=d.size;omega));have hfI:(f:Int)<((Fo.of X.types).len:Int):=by omega
  obtain⟨M,z,I,HR,HT,HN,HTV,ir,HTE,Gq⟩:=h_10 t d P R (show T.ok/\T.QS from⟨G,J⟩) a B j N O;clear t d P R ho G J a B j N s y hk U Du hf O g D
  go_enter Tryz.func276,Tryz.ntmps276
  go_wp2_with fail
  refine L.o.mono ?_;rintro e w2 ⟨rfl,G⟩;have j:=ag z.o G lR;obtain⟨HX2,CQ,cR⟩:=h_3 (cY G I.o) (M.o.below j) j;clear G j qE f0 f1 f2 c5 c6 H zb L I z;go_wp2
  go_loopw [33] (λi wr=>∃(k:Nat) (r1:Option Nat) (Q2:Value) (LA:List Value) (nv:Value),k<=n/\i=.int .i64 k/\cU X (ZR Z nv) wr (b9 k S).1 c r1 Q2 LA uv up/\X.Kp w wr/\
   wr.heap[w.heap.size]? =some (.cells #[.int .i64 (at_:Nat),.int .i64 (f:Nat),nv] 177 (0,0))/\wr.ownsRow w.heap.size 3 1 nv k (cE (cX (b9 k S).2))) (λi _=>n-(intOf i).toNat)
  case atStart=>
   refine⟨0,r,gv,ps,.slice none 0 0,aw _,rfl,?_,dm.kp X cR.o,HX2.o,aZ _ _ _ _⟩;exact CQ.o.z λq z=>z.resolve_right (by intro e;cases e)
  case round=>
   obtain⟨k,r1,Q2,LA,nv,FQ,rfl,G,j,P,y⟩:=hrel;obtain⟨a,d,rfl⟩:=cr y;have x2:=fu P;have c0:=G.at.c0;have zx:=af x2;have H:=af c0;have O:=jS k S;obtain⟨H1,nY,I,uk⟩:=h_4 G j P y;clear G j P y;by_cases bO:k<n
   ·clear O;go_wp2;refine ff (S:=λV=>V.cell? ⟨w.heap.size,2,none⟩=some (.slice a k d)/\V.cell? ⟨X.cx,0,none⟩=some (.pointer (some ⟨X.gx,0,none⟩))) 9 (by kernel_rfl) (by decide) (⟨x2,c0⟩) (λhHeld=> ?_)
    change mI _ _ Xx _ _ _ _ _ _ _ _
    refine oD (λZ=>Below wr.heap.size wr Z) (Below.ia bR) hHeld ?_;clear hHeld;rintro V F hHeld;refine qH 0 ⟨some 35,.fieldAddr 177 (.tmp 9) 2,0,cp,#[],none⟩ hHeld ?_;refine qH 1 ⟨some 36,.load 74 (.tmp 35),74,cp,#[aj 0],none⟩ hHeld ?_;refine qH 2 ⟨some 37,.move (.tmp 0),147,cp,#[],none⟩ hHeld ?_;refine qH 3 ⟨some 38,.nilCheck (.tmp 37),0,cp,#[aj 2],none⟩ hHeld ?_;refine qH 4 ⟨some 39,.fieldAddr 152 (.tmp 38) 0,0,cp,#[aj 3],none⟩ hHeld ?_;refine qH 5 ⟨some 40,.load 107 (.tmp 39),107,cp,#[aj 4],none⟩ hHeld ?_;have k_:(b9 k S).1.g.length<=1000000000:=by have:=(kQ k S).len;have:=HR.o.1;omega
    have A:=H1.o.below F;obtain⟨HC,HV,HXV,HOV,Sz⟩:=h_5 (Ij A k_) A (bQ I.o F zx) (gC uk.o (CK.below F)) (nY.o.below F);clear A F x2 c0 zx H;refine qO 6 ⟨some 41,.call ⟨.value (.func 71),#[.tmp 40],#[107]⟩,3,cp,#[aj 5],none⟩ λK g=> ?_;go_simp;refine HC.o.mono ?_;rintro e w3 ⟨rfl,r3,N,ps3,J,G⟩;have B:=G.keep HV.o.gr HXV.o ⟨by decide,by decide⟩;have j:=nD HOV.o (λq cu z=>G.keep HV.o.gr z ⟨by decide,by decide⟩);obtain⟨HX3,B0,kI,H3⟩:=h_4 B j (Sz.o.trans (HV.o.kp G)) J;clear B j G J hHeld;have B:∀Y:World,Y.heap[w.heap.size]? =some (.cells #[.int .i64 (at_:Nat),.int .i64 (f:Nat),.slice a k d] 177 (0,0))->Y.cell? ⟨w.heap.size,2,none⟩=some (.slice a k d):=λY h=>by rw[cell_of_row _ _ _ _ _ _ h];rfl
    have C:=hI B;clear B;refine qK g (⟨C.o _ HX3.o,H3.o.at.c0⟩) λhHeld=> ?_;clear g K;have D:=Below.cA w3 (.cells #[.int .i64 ((b9 k S).1.g.length:Nat)] 3);have hxB:=cY D HX3.o;obtain⟨s,HHB,E,Q,Sf⟩:=h_5 hxB (H3.o.below D) (gC B0.o (CK.below D)) (kI.o.below D) (a_ w3 (.cells #[.int .i64 ((b9 k S).1.g.length:Nat)] 3));clear D hxB;refine qO 7 ⟨some 42,.buildSlice 74 1 #[(0,.tmp 41)],74,cp,#[aj 6],none⟩ λK g=> ?_;go_simp;refine qK g (⟨C.o _ s.o,HHB.o.at.c0⟩) λhHeld=> ?_;clear g K;refine qO 8 ⟨some 43,.call ⟨.builtin .append,#[.tmp 36,.tmp 42],#[74,74]⟩,74,cp,#[aj 1,aj 7,ao 6],none⟩ λK g=> ?_;rw[aq (by rfl)];refine JF Cp _ _ rfl rfl E.o (q:=w3.heap.size) (us:=[.int .i64 ((b9 k S).1.g.length:Nat)]) rfl Sf.o rfl (one_one rfl) (by omega) (by have:=Q.o.size;omega) ?_;intro v' w4 oH G aij;obtain⟨J,L,rfl⟩:=cr oH;have eC:some w.heap.size≠(Value.slice a k d).ownBlock:=λe=>lQ E.o s.o (by decide) _ e.symm rfl;have hx4:=(G.block _ (gE s.o).1 eC).trans s.o;have h4:=HHB.o.append E.o G aij oH ir.o;have nL:=CX.Kp.grow (X:=X) Q.o G (λq z=>(iI E.o q z).1);obtain⟨j,H4,oy,HO4⟩:=h_4 hx4 h4 nL oH;clear oH G aij eC hx4 h4 nL;refine qK g (⟨C.o _ j.o,H4.o.at.c0⟩) λhHeld=> ?_;clear g K;refine jQ (by kernel_rfl) ?_
    change wpList _ Xx _ [⟨some 44,.fieldAddr 177 (.tmp 9) 2,0,cp,#[al 0,al 1,al 2,al 3,al 4,al 5,al 6,al 7,al 8],none⟩,⟨none,.store 74 (.tmp 44) (.tmp 43),0,cp,#[aj 9,aj 8,ao 8,al 0,al 1,al 2,al 3,al 4,al 5,al 6,al 7,al 8],none⟩] _ _
    clear hHeld;have B:=C.o _ j.o;have z4:=af B;have f4:w4.frozen? ⟨w.heap.size,2,none⟩=false:=by simp[World.frozen?,j.o]
    have G:Hd (cU X (ZR Z (.slice J (k+1) L)) (w4.setCell ⟨w.heap.size,2,none⟩ (.slice J (k+1) L)) (b9 (k+1) S).1 c r3 N ps3 uv up/\X.Kp w (w4.setCell ⟨w.heap.size,2,none⟩ (.slice J (k+1) L))/\
     (w4.setCell ⟨w.heap.size,2,none⟩ (.slice J (k+1) L)).heap[w.heap.size]? =some (.cells #[.int .i64 (at_:Nat),.int .i64 (f:Nat),.slice J (k+1) L] 177 (0,0))/\
     (w4.setCell ⟨w.heap.size,2,none⟩ (.slice J (k+1) L)).ownsRow w.heap.size 3 1 (.slice J (k+1) L) (k+1) (cE (cX (b9 (k+1) S).2))):=hI (by
     have U:=yJ k S;rw[U];refine⟨H4.o.Xu j.o (by decide) (by decide) (by decide) (by decide) (λe=> ?_) ir.o,oy.o.UZ (p:=⟨w.heap.size,2,none⟩) lR _,?_,?_⟩
     ·have:=(iI M.o.us.own _ e).2;omega
     ·simp only[World.setCell,Array.getElem?_modify,if_true,j.o,Option.map_some];rfl
     ·have:=mi (o:=2) (x:=.slice J (k+1) L) HO4.o j.o (by decide);rw[kO,<-eZ];exact this)
    go_wp2
    go_roundw
    case rel=>exact⟨k+1,r3,N,ps3,_,by omega,by go_num,G.o.1,G.o.2.1,G.o.2.2.1,G.o.2.2.2⟩
    case measure=>simp[intOf];omega
   ·obtain rfl:k=n:=by omega
    have x0:=cZ I.o;have x1:=eY I.o;have c10:=H1.o.c10;clear O c0;go_wp2;refine ff (S:=λV=>V.cell? ⟨w.heap.size,0,none⟩=some (.int .i64 (at_:Nat))/\V.cell? ⟨w.heap.size,1,none⟩=some (.int .i64 (f:Nat))/\V.cell? ⟨w.heap.size,2,none⟩=some (.slice a k d)/\V.cell? ⟨X.cx,10,none⟩=some uv) 8 (by kernel_rfl) (by decide) (⟨x0,x1,x2,c10⟩) (λhHeld=> ?_)
    change mI _ _ Xy _ _ _ _ _ _ _ _
    refine oD (λZ=>Below wr.heap.size wr Z) (Below.ia bR) hHeld ?_;clear hHeld;rintro V F hHeld;refine qH 0 ⟨some 46,.move (.tmp 0),147,cw,#[],none⟩ hHeld ?_;refine qH 1 ⟨some 47,.move (.tmp 0),147,cw,#[],none⟩ hHeld ?_;refine qH 2 ⟨some 48,.nilCheck (.tmp 47),0,cw,#[aj 1],none⟩ hHeld ?_;refine qH 3 ⟨some 49,.fieldAddr 152 (.tmp 48) 7,0,cw,#[aj 2],none⟩ hHeld ?_;refine qH 4 ⟨some 50,.load 150 (.tmp 49),150,cw,#[aj 3],none⟩ hHeld ?_;refine qH 5 ⟨some 51,.load 177 (.tmp 9),177,cw,#[],none⟩ hHeld ?_;have A:=H1.o.below F;have D:=Below.cA V (.cells #[.int .i64 (at_:Nat),.int .i64 (f:Nat),.slice a k d] 177);have G:=ag F D lR;obtain⟨j,s,E,Q,Sf⟩:=h_5 (H1.o.below G) (bQ I.o G zx) (gC uk.o (CK.below G)) (nY.o.below G) (a_ V (.cells #[.int .i64 (at_:Nat),.int .i64 (f:Nat),.slice a k d] 177));obtain⟨W,hW⟩:=xE (V.alloc (.cells #[.int .i64 (at_:Nat),.int .i64 (f:Nat),.slice a k d] 177));clear A D G F x0 x1 x2 c10 zx H;refine qO 6 ⟨some 52,.buildSlice 150 1 #[(0,.tmp 51)],150,cw,#[aj 5],none⟩ λK g=> ?_;go_simp;rw[<-hW]at j s E Q Sf |-;have J:∀Y:World,Y.heap[w.heap.size]? =some (.cells #[.int .i64 (at_:Nat),.int .i64 (f:Nat),.slice a k d] 177 (0,0))->Y.cell? ⟨w.heap.size,0,none⟩=some (.int .i64 (at_:Nat))/\Y.cell? ⟨w.heap.size,1,none⟩=some (.int .i64 (f:Nat))/\Y.cell? ⟨w.heap.size,2,none⟩=some (.slice a k d):=λY h=>⟨by rw[cell_of_row _ _ _ _ _ _ h];rfl,by rw[cell_of_row _ _ _ _ _ _ h];rfl,by rw[cell_of_row _ _ _ _ _ _ h];rfl⟩;have C:=hI J;clear J;refine qK g (⟨(C.o _ s.o).1,(C.o _ s.o).2.1,(C.o _ s.o).2.2,j.o.c10⟩) λhHeld=> ?_;clear g K;refine qO 7 ⟨some 53,.call ⟨.builtin .append,#[.tmp 50,.tmp 52],#[150,150]⟩,150,cw,#[aj 4,aj 6],none⟩ λK g=> ?_;rw[aq (by rfl)];have HUS:Hd ((b9 k S).1.us=S.us):=hI (Ks k S);refine JF ahX _ _ rfl rfl j.o.us.own (q:=V.heap.size) (us:=[.int .i64 (at_:Nat),.int .i64 (f:Nat),.slice a k d]) rfl Sf.o rfl (by intro u hu;simp only[aE,List.not_mem_nil,or_false]at hu;rcases hu with rfl|rfl|rfl<;>rfl) (by rw[HUS.o];have:=HR.o.2.1;omega) j.o.lt.2.2 ?_;intro vN w5 qh L _;obtain⟨a5,e5,rfl⟩:=cr qh;have eC:some w.heap.size≠uv.ownBlock:=λe=>by have:=(iI M.o.us.own _ e.symm).2;omega
    have N:=(L.block _ (gE s.o).1 eC).trans s.o;have hzl:∀q,Z q->q<w.heap.size:=M.o.uq;have hlen:=jS k S;have G:=(j.o.z (Z':=Z) λq z=>.inl z).aek (at_:=at_) (f:=f) (nv:=.slice a k d) (Xv:=(.slice a5 ((b9 k S).1.us.length+1) e5)) (l:=(b9 k S).2) qh L (dw.pF E.o (by omega)) (lD.own E.o hzl);have xR:w5.heap[X.cx]? =some (.cells #[.pointer (some ⟨X.gx,0,none⟩),X.dv,X.cv,X.fv,X.rv,X.tv,.map (some X.ob),.map (some X.eb),X.kv,.int .i64 (c:Nat),uv] 152 (0,0)):=(L.block _ (gE j.o.fW).1 (λe=>lQ j.o.us.own j.o.fW (by decide) _ e.symm rfl)).trans j.o.fW;have c10:w5.cell? ⟨X.cx,10,none⟩=some uv:=by rw[cell_of_row _ _ _ _ _ _ xR];rfl
    have ho5:w5.ownsRow w.heap.size 3 1 (.slice a k d) k (cE (cX (b9 k S).2)):=nD E.o λq cu z=>(L.block q (gE z).1 (λe=>by
     rcases j.o.us.own.2 with⟨B,_⟩|⟨g',cap,cur,B,_,J,_⟩
     ·rw[B]at e;cases e
     ·rw[B]at e;have:=Option.some.inj e;subst this;rw[z]at J;simp only[aL,Obj.cells.injEq]at J;exact ay J.2.1 (by decide))).trans z
    obtain⟨B,aik,WT,J,HO5⟩:=h_5 N G.1 (Q.o.trans G.2) xR ho5;clear qh L eC N G xR ho5 hzl hlen;refine qK g (⟨(C.o _ B.o).1,(C.o _ B.o).2.1,(C.o _ B.o).2.2,c10⟩) λhHeld=> ?_;clear g K;refine jQ (by kernel_rfl) ?_
    change wpList _ Xy _ [⟨some 54,.nilCheck (.tmp 46),0,cw,#[aj 0,al 0,al 1,al 2,al 3,al 4,al 5,al 6,al 7],none⟩,⟨some 55,.fieldAddr 152 (.tmp 54) 7,0,cw,#[aj 8,al 0,al 1,al 2,al 3,al 4,al 5,al 6,al 7],none⟩,⟨none,.store 150 (.tmp 55) (.tmp 53),0,cw,#[aj 9,aj 7,ao 7,al 0,al 1,al 2,al 3,al 4,al 5,al 6,al 7],none⟩] _ _
    clear hHeld;have f10:w5.frozen? ⟨X.cx,10,none⟩=false:=by simp[World.frozen?,J.o]
    have H:=af c10;have HXA:Hd ((w5.setCell ⟨X.cx,10,none⟩ (.slice a5 ((b9 k S).1.us.length+1) e5)).heap[w.heap.size]? =some (.cells #[.int .i64 (at_:Nat),.int .i64 (f:Nat),.slice a k d] 177 (0,0))):=hI ((au _ _ _ _ (show w.heap.size≠X.cx by have:=M.o.lt.1;omega)).trans B.o);have HOA:=hI (mi (o:=10) (x:=(.slice a5 ((b9 k S).1.us.length+1) e5)) HO5.o J.o (by decide))
    go_upto_region 10 with fail
    refine eR (λY=>cU X Z Y { (b9 k S).1 with us:=(b9 k S).1.us++[(at_,(f:Int),(b9 k S).2)]} c r1 Q2 LA (.slice a5 ((b9 k S).1.us.length+1) e5) (up++[.slice a k d])/\X.Kp w Y/\Y.heap[w.heap.size]? =some (.cells #[.int .i64 (at_:Nat),.int .i64 (f:Nat),.slice a k d] 177 (0,0))/\Y.ownsRow w.heap.size 3 1 (.slice a k d) k (cE (cX (b9 k S).2))) ⟨aik.o,WT.o,HXA.o,HOA.o⟩ ?_;clear c10 f10 H aik WT HXA HOA J B HO5 j s E Q Sf hW H1 nY I uk;rintro W6 ⟨L,xH,hx6,ho6⟩;obtain⟨b6,alX,alY,p6,pc6,ail,alZ,g0,g1,g2,N⟩:=dC L.ty (Below.refl X.B W6) Gq.o;rw[HTV.o]at ail;cases ail;rw[<-HTE.o]at g0 g1 g2 N;have c0:=L.at.c0;have c5:=L.at.c5;rw[HTV.o]at c5;have H:=af c0;have zb:=af g0;have hlen:=jS k S;have G:T.ok/\T.QS:=HT.o;have oF:∀x,T.one.has x->0<=x/\x.toNat<(b9 k S).2.length:=λx hx=>⟨G.1.var x hx,by rw[hlen,HN.o,<-Nd.nz];exact Fo.nA _ _ hx⟩;have k_:(b9 k S).1.g.length+T.size<=1000000000:=by have:=(kQ k S).len;have:=HR.o.1;have:=G.2.size;omega
    obtain⟨j,B,Fk⟩:=h_3 (λV (J:Below W6.heap.size W6 V)=>aem (L.below J) (ub:=w.heap.size) (x0:=.int .i64 (at_:Nat)) (x1:=.int .i64 (f:Nat)) (nv:=.slice a k d) (l:=(b9 k S).2) (cY J hx6) (by rw[hlen];exact gC ho6 (CK.below J)) (by omega) G.2.nr oF (tv:=.agg #[.int .i64 T.a,.int .i64 T.n,.slice p6 T.k.len pc6]) ⟨_,rfl,N.below (J.mono (ai L.hB L.lt.2.2)) lR⟩ k_) (r9 T.one (b9 k S).1.g (b9 k S).2 λx hx=>(oF x hx).2) xH;have EL:∀(fn:Fn) (first cap:Array Value) (w:World),(Instr.makeFunc fn first cap).run Tryz.prog w=.ok (.func fn first cap) w:=λ_ _ _ _=>rfl;clear L xH hx6 ho6 N hlen G oF k_
    go_wp2_with fail
    refine gw 12 (by kernel_rfl) (by kernel_rfl) ?_;simp only[List.take_succ_cons,List.take_zero,List.drop_succ_cons,List.drop_zero]
    repeat go_big_quiet_step (fail)
    refine wpQuiet_nil ?_;intro N G;have J:=hI (j.o N G);have XA:=hI (Fk.o.below G);clear G j c0 c5 g0 g1 g2 H zb
    go_wp2_with fail
    refine J.o.mono ?_;rintro e w8 ⟨j,rfl,L⟩;have G:=hI (XA.o.trans j);have H8:=hI L;clear j L;go_wp2;go_ret;have he:(dO xJ T.one (b9 k S).1.g (b9 k S).2).2.headD 0=(er S T).2.1:=by
     rw[<-B.o];unfold er jW;rw[<-HN.o]
    refine⟨G.o,congrArg (λx:Nat=>Ending.returned (nV x)) (by rw[<-List.headD_eq_head?_getD];exact he),?_⟩;have h:=H8.o;rw[<-B.o]at h;unfold er;rw[<-HN.o];exact h
theorem aaZ{X:CX}(a:t.a=4\/t.a=5)(c:Nat)(S:Ck):X.one t c S=nC (X.ks t.k) (jd er X.C S c t.n).2 (c+1) (jd er X.C S c t.n).1:=by
 have h:X.one t c S=UF er X.C t.n (X.ks t.k) c S:=by
  unfold CX.one xW;rw[ah (by omega),ah (by omega),ah (by omega),aq a];rfl
 rw[h];rfl
theorem O8{X:CX}(a:iA X S)(c:Nat){f:Int}(b:A5 X.C f)(d:CZ X.C f):iA X (jd er X.C S c f).1/\(jd er X.C S c f).2<(jd er X.C S c f).1.g.length/\nu S (jd er X.C S c f).1 201:=by
 have h:=WX a.ok c b;have s:=Ib rX S c d;exact⟨a.step h.1 s,h.2,s⟩
theorem Ik(X:CX){F:Fo}{k:Nat}(h:k<F.len)(f c:Nat)(S:Ck):nC (X.ks (F.drop k)) f c S=eG (X.one (F.at k) c S) λb a=>eG (zz b f a) λS2 m=>nC (X.ks (F.drop (k+1))) m (c+(F.at k).size) S2:=by
 rw[QX X h];rfl
theorem Mj{X:CX}{S':Ck}{a m:Nat}(b:iA X S)(c:f<S.g.length)(d:a<S.g.length)(e:zz S f a=some (S',m)):iA X S'/\m<S'.g.length/\nu S S' 2/\S.g.length<=S'.g.length:=
 let l:=ahN b.ok.low c d e
 ⟨b.step l.1 (JC e),l.2,JC e,l.1.len⟩
theorem Room.aim{z:Nat}(h:Room S c (1+z)):Room S (c+1) 0/\Room S c 1:=by
 obtain⟨a,b,d⟩:=h;exact⟨⟨by omega,by omega,by omega⟩,⟨by omega,by omega,by omega⟩⟩
theorem Room.app{S' S2:Ck}{z a:Nat}(h:Room S c (z+a))(s:nu S S' (1000*z-10))(s2:nu S' S2 2)(b:1<=z):Room S2 (c+z) a:=(h.next (s.trans s2 lR) (by omega))
abbrev aes:Oper:=⟨some 31,.move (.tmp 0),147,dj,#[],none⟩
abbrev aet:Oper:=⟨some 32,.nilCheck (.tmp 31),0,dj,#[aj 0],none⟩
abbrev aeu:Oper:=⟨some 33,.fieldAddr 152 (.tmp 32) 0,0,dj,#[aj 1],none⟩
abbrev aev:Oper:=⟨some 34,.load 107 (.tmp 33),107,dj,#[aj 2],none⟩
abbrev aew:Oper:=⟨some 35,.move (.tmp 5),3,dj,#[],none⟩
abbrev aex:Oper:=⟨some 36,.move (.tmp 0),147,dj,#[],none⟩
abbrev aey:Oper:=⟨some 37,.nilCheck (.tmp 36),0,dj,#[aj 5],none⟩
abbrev aez:Oper:=⟨some 38,.fieldAddr 152 (.tmp 37) 0,0,dj,#[aj 6],none⟩
abbrev aeA:Oper:=⟨some 39,.load 107 (.tmp 38),107,dj,#[aj 7],none⟩
abbrev aeB:Oper:=⟨some 40,.move (.tmp 8),3,dj,#[],none⟩
abbrev aa0:Oper:=⟨some 41,.move (.tmp 9),3,dj,#[],none⟩
abbrev aa1:Oper:=⟨some 42,.buildSlice 74 2 #[(0,.tmp 40),(1,.tmp 41)],74,dj,#[aj 9,aj 10],none⟩
abbrev aa2:Oper:=⟨some 43,.call ⟨.value (.func 112),#[.tmp 39,.const (.int .i64 2),.const (.int .i64 0),.tmp 42],#[107,3,3,74]⟩,3,dj,#[aj 8,aj 11],none⟩
abbrev aa3:Oper:=⟨some 44,.call ⟨.value (.func 76),#[.tmp 34,.tmp 35,.tmp 43],#[107,3,3]⟩,0,dj,#[aj 3,aj 4,aj 12,ao 12],none⟩
def Q3:Array Oper:= #[aes,aet,aeu,aev,aew,aex,aey,aez,aeA,aeB,aa0,aa1,aa2,aa3]
abbrev aeC:Oper:=⟨some 10,.move (.tmp 0),147,dk,#[],none⟩
abbrev aeD:Oper:=⟨some 11,.fieldAddr 54 (.tmp 3) 1,0,dk,#[],none⟩
abbrev aeE:Oper:=⟨some 12,.load 3 (.tmp 11),3,dk,#[aj 1],none⟩
abbrev aeF:Oper:=⟨some 13,.move (.tmp 0),147,dk,#[],none⟩
abbrev aeG:Oper:=⟨some 14,.call ⟨.value (.func 272),#[.tmp 13],#[147]⟩,3,dk,#[aj 3],none⟩
abbrev aeH:Oper:=⟨some 15,.call ⟨.value (.func 276),#[.tmp 10,.tmp 12,.tmp 14],#[147,3,3]⟩,3,dk,#[aj 0,aj 2,aj 4,ao 4],none⟩
abbrev aeI:Oper:=⟨some 5,.assign (.tmp 15),3,dk,#[aj 5,ao 5,al 0,al 1,al 2,al 3,al 4,al 5],none⟩
def Q4:Array Oper:= #[aeC,aeD,aeE,aeF,aeG,aeH,aeI]
theorem aeJ{X:CX}(hX:Ds X)(U:jb X t.one)(hk:∀i,i<t.k.len->yH X (t.k.at i))(W:t.a=4\/t.a=5):BC X 242 t:=by
 intro Z S c tv w h H j hv;obtain⟨sv,rfl,o⟩:=hv;obtain⟨x,sc,rfl⟩:=o.slice;have v:t.size=1+t.k.size:=rfl;have g:=U.node;have r:=aaZ (X:=X) W c S;rw[v]at j |-;generalize E:X.one t c S=R at r |-;have ix:=hI r.symm;have n:=hI W;have l:=Below.cA w (.cells #[.int .i64 t.a,.int .i64 t.n,.slice x t.k.len sc] 54);have y:vG (w.alloc (.cells #[.int .i64 t.a,.int .i64 t.n,.slice x t.k.len sc] 54)) w.heap.size t x sc:=a_ _ _;have s:X.B<=X.base:=by obtain⟨_,_,_,_,_,hh⟩:=h;exact hh.hB
 have HL:Hd (∀w',X.Kp w w'->dr w' X.B (.slice x t.k.len sc) t.k):=hI λw' d=>o.below (h.low d s) lR;obtain⟨CI,fw,I,J,HO,HT,HX,HHK,H1,L,nR⟩:=h_11 (show X.B<=w.heap.size from ai s h.lt.2.2) (Aq (h.below l) (by have:=j.2.2;omega)) (dm.kp X l) j H U hX hk (h.below l) y g;clear h H j o l W U hX hk y v g s r E;have G:0<=t.n/\t.n.toNat<X.types.length:=by
  obtain⟨o,h1⟩:=mV nR.o n.o;exact⟨o,by rw[HX.o.len];omega⟩
 obtain⟨f,j⟩:∃f:Nat,t.n=f:=⟨t.n.toNat,by omega⟩;have M:Hd (A5 X.C f/\CZ X.C f):=hI (by rw[<-j];exact⟨HT.o.fns.1 n.o,HT.o.sm.1 n.o⟩);have o:f<X.types.length:=by omega
 have l:=O8 HO.o c (f:=t.n) (by rw[j];exact M.o.1) (by rw[j];exact M.o.2);have y:Hd (∀V,dm X Z V S (c+1)->Calls Tryz.prog 276 #[.pointer (some ⟨X.cx,0,none⟩),.int .i64 t.n,.int .i64 (c:Nat)] V (rf X Z V (c+1) nV (some (jd er X.C S c t.n)))):=hI λV hV=>by
  have h:=Mh (at_:=c) hV HO.o ⟨c,J.o.aim.2⟩ o M.o.1 M.o.2;rw[<-j]at h;exact h
 obtain⟨F,hF⟩:=xE (jd er X.C S c t.n);rw[<-hF]at ix l y;have A:=hI l;have HRA:Hd (Room F.1 (c+1) t.k.size):=hI (J.o.next (z:=1) l.2.2 (by omega));have N:t.k.len<=900000000:=by have:=t.k.nE;have:=J.o.2.2;omega
 have Se:=hI N;clear G l hF o j N
 go_enter Tryz.func242,Tryz.ntmps242
 go_wp2;refine eR (λY=>dm X Z Y S c/\X.Kp w Y/\vG Y w.heap.size t x sc) ⟨H1.o,I.o,L.o⟩ ?_;clear H1 I L fw;rintro w1 ⟨h1,o,j⟩;obtain⟨H1,I,L⟩:=h_3 h1 o j;have t1:=j.cells.2.1;clear h1 o j;refine ff (S:=λV=>V.cell? ⟨w.heap.size,1,none⟩=some (.int .i64 t.n)) 5 (by kernel_rfl) (by decide) (t1) (λhHeld=> ?_)
 change mI _ _ Q4 _ _ _ _ _ _ _ _
 refine oD (λZ=>Below w1.heap.size w1 Z) (Below.ia bR) hHeld ?_;clear hHeld;rintro V j hHeld;refine qH 0 ⟨some 10,.move (.tmp 0),147,dk,#[],none⟩ hHeld ?_;refine qH 1 ⟨some 11,.fieldAddr 54 (.tmp 3) 1,0,dk,#[],none⟩ hHeld ?_;refine qH 2 ⟨some 12,.load 3 (.tmp 11),3,dk,#[aj 1],none⟩ hHeld ?_;refine qH 3 ⟨some 13,.move (.tmp 0),147,dk,#[],none⟩ hHeld ?_;obtain⟨HB,S_,B_⟩:=h_3 (H1.o.below j) (L.o.below j) (I.o.below j);have fw:=hI (Aq HB.o (by have:=J.o.2.2;omega));clear j t1;refine qO 4 ⟨some 14,.call ⟨.value (.func 272),#[.tmp 13],#[147]⟩,3,dk,#[aj 3],none⟩ λK l=> ?_;go_simp;refine fw.o.mono ?_;rintro e w2 ⟨o,rfl,g⟩;obtain⟨Gp,lX,H2⟩:=h_3 (S_.o.keep HB.o o) (B_.o.trans o) g;clear o g hHeld;refine qK l (Gp.o.cells.2.1) λhHeld=> ?_;clear l K;refine jQ (by kernel_rfl) ?_
 change wpList _ Q4 _ [⟨some 15,.call ⟨.value (.func 276),#[.tmp 10,.tmp 12,.tmp 14],#[147,3,3]⟩,3,dk,#[aj 0,aj 2,aj 4,ao 4],none⟩,⟨some 5,.assign (.tmp 15),3,dk,#[aj 5,ao 5,al 0,al 1,al 2,al 3,al 4,al 5],none⟩] _ _
 clear hHeld;have iK:=hI (y.o w2 H2.o)
 go_wp2_with fail
 refine iK.o.mono ?_;rintro e w3 ⟨o,rfl,H⟩;obtain⟨aef,kI,H3⟩:=h_3 (Gp.o.keep H2.o o) (lX.o.trans o) H;have t2:=aef.o.cells.2.2;have zt:=af t2;have N:=Se.o;have WU:Hd (c+1+t.k.size=c+(1+t.k.size)):=hI (by omega);clear o H;go_wp2
 go_loopw [5,19] (λov i wr=>∃(k:Nat) (g:Ck) (c1 f1:Nat),k<=t.k.len/\i=.int .i64 k/\ov=.int .i64 (f1:Nat)/\dm X Z wr g c1/\X.Kp w wr/\iA X g/\f1<g.g.length/\Room g c1 (t.k.drop k).size/\c1+(t.k.drop k).size=c+(1+t.k.size)/\nC (X.ks (t.k.drop k)) f1 c1 g=R) (λ_ i _=>t.k.len-(intOf i).toNat)
 case atStart=>exact⟨0,F.1,c+1,F.2,aw _,rfl,rfl,H3.o,kI.o,A.o.1,A.o.2.1,by rw[Fo.drop_zero];exact HRA.o,by rw[Fo.drop_zero];exact WU.o,by rw[Fo.drop_zero];exact ix.o⟩
 case round=>
  obtain⟨k,g,c1,f1,iS,rfl,rfl,O,d,P,Ez,B,r,C⟩:=hrel;by_cases s:k<t.k.len
  ·have H:=HL.o wr d;obtain⟨b,off,cap,p,pc,Q,fF,f0,ff1,f2,E⟩:=dC H bR s;cases Q;have zb:b<wr.heap.size:=af f0;have o:=Below.cA wr (.cells #[.int .i64 (t.k.at k).a,.int .i64 (t.k.at k).n,.slice p (t.k.at k).k.len pc] 54);have G:=Fo.Ar s;rw[G]at B r;have T:1<=(t.k.at k).size:=by unfold Nd.size;omega
   have v:=HHK.o k s Z g c1 (.agg #[.int .i64 (t.k.at k).a,.int .i64 (t.k.at k).n,.slice p (t.k.at k).k.len pc]) _ (O.below o) P (B.less (by omega)) ⟨_,rfl,E.below o (by have:=d.size;have:=CI.o;omega)⟩;have HN:=hI (λS2 a e=>vF HX.o (HT.o.kids.at s) (S:=g) (S':=S2) (c:=c1) (m:=a) P e);have Nn:=hI (d.below o);rw[Ik X s]at C;obtain⟨D,QY,Xi,dL,Wp,Qp⟩:=h_6 C B r s Ez T;have N:=Se.o;have om:(k:Int)<(t.k.len:Int):=by omega
   clear C H E O d P B r o G Ez T ix t2 zt;cases he:X.one (t.k.at k) c1 g with
   |none=>
    rw[he]at v D;obtain rfl:none=R:=D.o;have T:=hI v;clear v he
    go_wp2_with fail
    refine T.o.mono ?_;rintro e w4 ⟨E,rfl⟩;have oy:=hI (Nn.o.trans E);clear E;go_wp2;exact⟨rfl,oy.o,rfl⟩
   |some q=>
    obtain⟨S2,a⟩:=q;rw[he]at v D;obtain⟨H,n2,n3,o⟩:=HN.o S2 a he;obtain⟨T,jN,lG,Xj⟩:=h_4 v H n2 o;have O9:Hd (f1<S2.g.length):=hI (aC Wp.o n3.len);have Fp:Hd (S2.g.length<=999999990):=hI (by have:=o.len;have:=QY.o.1;omega);have Q:=QZ S2 f1 a;obtain⟨EQ,heq⟩:=xE (wN (gQ (bP S2).1 3 0 [a,S2.g.length]).1 f1 (bP S2).1.g.length);have ye:=hI heq;have G:=hI Q;clear v he HN H n2 n3 o heq Q
    go_wp2_with fail
    refine T.o.mono ?_;rintro e w4 ⟨E,rfl,H⟩;have oy:=hI (Nn.o.trans E);have H4:=hI H;clear E H f0 ff1 f2 zb T;have c0:w4.cell? ⟨X.cx,0,none⟩=some (.pointer (some ⟨X.gx,0,none⟩)):=H4.o.c0;have o:=af c0;have HC4:=hI (r7 H4.o (by have:=Fp.o;omega))
    go_wp2_with fail
    refine HC4.o.mono ?_;rintro e w5 ⟨Un,rfl,H⟩;clear c0 o;have c0:w5.cell? ⟨X.cx,0,none⟩=some (.pointer (some ⟨X.gx,0,none⟩)):=H.c0;have o:=af c0;have Hb:=hI (oy.o.trans Un);have H5:=hI H;clear Un H;go_wp2;refine ff (S:=λV=>V.cell? ⟨X.cx,0,none⟩=some (.pointer (some ⟨X.gx,0,none⟩))) 13 (by kernel_rfl) (by decide) (c0) (λhHeld=> ?_)
    change mI _ _ Q3 _ _ _ _ _ _ _ _
    refine oD (λZ=>Below w5.heap.size w5 Z) (Below.ia bR) hHeld ?_;clear hHeld;rintro V j hHeld;refine qH 0 ⟨some 31,.move (.tmp 0),147,dj,#[],none⟩ hHeld ?_;refine qH 1 ⟨some 32,.nilCheck (.tmp 31),0,dj,#[aj 0],none⟩ hHeld ?_;refine qH 2 ⟨some 33,.fieldAddr 152 (.tmp 32) 0,0,dj,#[aj 1],none⟩ hHeld ?_;refine qH 3 ⟨some 34,.load 107 (.tmp 33),107,dj,#[aj 2],none⟩ hHeld ?_;refine qH 4 ⟨some 35,.move (.tmp 5),3,dj,#[],none⟩ hHeld ?_;refine qH 5 ⟨some 36,.move (.tmp 0),147,dj,#[],none⟩ hHeld ?_;refine qH 6 ⟨some 37,.nilCheck (.tmp 36),0,dj,#[aj 5],none⟩ hHeld ?_;refine qH 7 ⟨some 38,.fieldAddr 152 (.tmp 37) 0,0,dj,#[aj 6],none⟩ hHeld ?_;refine qH 8 ⟨some 39,.load 107 (.tmp 38),107,dj,#[aj 7],none⟩ hHeld ?_;refine qH 9 ⟨some 40,.move (.tmp 8),3,dj,#[],none⟩ hHeld ?_;refine qH 10 ⟨some 41,.move (.tmp 9),3,dj,#[],none⟩ hHeld ?_;have Jr:=Below.cA V (.cells #[.int .i64 (a:Nat),.int .i64 (S2.g.length:Nat)] 3);have H:=ag j Jr lR;have O_:=H5.o.below H;obtain⟨HCP,CV,HA⟩:=h_3 (Fh O_ (by rw[iN];have:=Fp.o;omega) 3 2 0 rfl (Fj V a S2.g.length) ((H5.o.below j).OR (w':=V) lR)) (Hb.o.below H) O_;clear Jr H O_ j;refine qO 11 ⟨some 42,.buildSlice 74 2 #[(0,.tmp 40),(1,.tmp 41)],74,dj,#[aj 9,aj 10],none⟩ λK l=> ?_;go_simp;refine qK l (HA.o.c0) λhHeld=> ?_;clear l K;refine qO 12 ⟨some 43,.call ⟨.value (.func 112),#[.tmp 39,.const (.int .i64 2),.const (.int .i64 0),.tmp 42],#[107,3,3,74]⟩,3,dj,#[aj 8,aj 11],none⟩ λK l=> ?_;go_simp;refine HCP.o.mono ?_;rintro e wp ⟨d,rfl,hp⟩;have xD:=hI (CV.o.trans d);have HP:=hI hp;clear d hp hHeld;refine qK l (HP.o.c0) λhHeld=> ?_;clear l K;refine jQ (by kernel_rfl) ?_
    change wpList _ Q3 _ [⟨some 44,.call ⟨.value (.func 76),#[.tmp 34,.tmp 35,.tmp 43],#[107,3,3]⟩,0,dj,#[aj 3,aj 4,aj 12,ao 12],none⟩] _ _
    clear hHeld;have H:=Ap HP.o ((jN.o).free.node (.inr (.inl rfl)) 0 (Ih S2 lG.o)) (by rw[lU,iN];have:=Fp.o;omega) (a:=f1) (b:=(bP S2).1.g.length) (by rw[lU,iN];have:=O9.o;omega) (by rw[lU];omega);clear c0 o;rw[<-ye.o]at H;have HCQ:=hI H;clear H
    go_wp2_with fail
    refine HCQ.o.mono ?_;cases EQ with
    |none=>
     have o:Hd (none=R):=hI (by have:eG (zz S2 f1 a) _=R:=D.o;rw[G.o,<-ye.o]at this;exact this);rintro e w6 ⟨H,rfl⟩;have Fk:=hI (xD.o.trans H);clear H;obtain rfl:none=R:=o.o;go_wp2;exact⟨rfl,Fk.o,rfl⟩
    |some q=>
     obtain⟨S3,u⟩:=q;have o:zz S2 f1 a=some (S3,S2.g.length):=by rw[G.o,<-ye.o];rfl
     have HRN:Hd (nC (X.ks (t.k.drop (k+1))) S2.g.length (c1+(t.k.at k).size) S3=R):=hI (by have:eG (zz S2 f1 a) _=R:=D.o;rw[o]at this;exact this);have T9:=hI (Mj jN.o O9.o lG.o o);clear o;rintro e w6 ⟨H,rfl,h6⟩;have Fk:=hI (xD.o.trans H);have H6:=hI h6;clear H h6;go_wp2
     go_roundw
     case rel=>exact⟨k+1,S3,c1+(t.k.at k).size,S2.g.length,dL.o,by go_num,rfl,H6.o,Fk.o,T9.o.1,T9.o.2.1,QY.o.app Xj.o T9.o.2.2.1 Qp.o,by have:=Xi.o;omega,HRN.o⟩
     case measure=>have:=dL.o;simp[intOf];omega
  ·obtain rfl:k=t.k.len:=by omega
   have H:t.k.drop t.k.len=.nil:=Fo.ie lR;rw[H]at C r;have E:c1=c+(1+t.k.size):=r;obtain rfl:some (g,f1)=R:=C;subst E;have G:=hI O;have o:=hI d;clear O d P B r H Ez;go_wp2;go_ret;exact⟨o.o,rfl,G.o⟩
end
section
open Go Go.RowKit Go.Sort
theorem Pa(i d n:Nat)(l:List Nat)(h:i≠d):(List.replicate n i++l).idxOf d=n+l.idxOf d:=by
 induction n with
 |zero=>simp
 |succ n a=>
  rw[List.replicate_succ,bJ,List.idxOf_cons,a];rw[beq_eq_false_iff_ne.2 h];show n+l.idxOf d+1=_;omega
theorem Ml:∀(ds:List fV) (i n d:Nat),(dH ds i)[n]? =some d->i<=d/\d-i<ds.length/\(dH ds i).idxOf d<=n/\n-(dH ds i).idxOf d<(b8 ds (d-i)).cons.length/\
 gH (ds.map ZN) i n=(d,(b8 ds (d-i)).params,dD (b8 ds (d-i)).cons (n-(dH ds i).idxOf d))/\(fB ds)[n]? =some ((dD (b8 ds (d-i)).cons (n-(dH ds i).idxOf d)).len:Int)
 |[],i,n,d,h=>by simp[dH]at h
 |x::l,i,n,d,h=>by
  have c:gH ((x::l).map ZN) i n=if(n:Int)<x.cons.length then(i,x.params,x.cons[((n:Nat):Int).toNat]?.getD .nil)else gH (l.map ZN) (i+1) (n-x.cons.length):=rfl;have e:fB (x::l)=tU x++fB l:=rfl;have hc:dH (x::l) i=List.replicate x.cons.length i++dH l (i+1):=rfl;rw[hc]at h |-;by_cases a:n<x.cons.length
  ·rw[bM (by simpa using a),List.getElem?_replicate,aq a]at h;cases h;have hi:(List.replicate x.cons.length i++dH l (i+1)).idxOf i=0:=by
    cases b:x.cons.length with
    |zero=>omega
    |succ m=>rw[List.replicate_succ,bJ,List.idxOf_cons];simp
   have b:b8 (x::l) (i-i)=x:=by rw[Nat.sub_self];rfl
   rw[hi,b,Nat.sub_zero];refine⟨lR,by simp,aw _,a,?_,?_⟩
   ·rw[c,aq (by omega),bw];rfl
   ·rw[e,bM (by rw[mU];exact a)];unfold tU;rw[List.getElem?_map,ae a];unfold dD;rw[ae a];rfl
  ·rw[bo (by simpa using a),cM]at h;obtain⟨p,q,r,f,g,j⟩:=Ml l (i+1) (n-x.cons.length) d h;have hi:=Pa i d x.cons.length (dH l (i+1)) (by omega);have b:b8 (x::l) (d-i)=b8 l (d-(i+1)):=by
    obtain⟨k,rfl⟩:∃k,d=i+1+k:=⟨d-(i+1),by omega⟩;rw[show i+1+k-i=k+1 by omega,show i+1+k-(i+1)=k by omega];rfl
   have o:n-(List.replicate x.cons.length i++dH l (i+1)).idxOf d=n-x.cons.length-(dH l (i+1)).idxOf d:=by rw[hi];omega
   rw[b,o];refine⟨by omega,by simp;omega,by rw[hi];omega,f,?_,?_⟩
   ·rw[c,ah (by omega)];rw[show((n:Int)-x.cons.length)=((n-x.cons.length:Nat):Int)by omega];exact g
   ·rw[e,bo (by rw[mU];omega),mU];exact j
theorem Av:∀(ds:List fV) (i:Nat),(dH ds i).length=(fB ds).length
 |[],_=>rfl
 |x::l,i=>by
  have a:fB (x::l)=tU x++fB l:=rfl;have hc:dH (x::l) i=List.replicate x.cons.length i++dH l (i+1):=rfl;rw[a,hc,az,az,cM,mU,Av l (i+1)]
structure Q5 (X:CX) (n d first:Nat) (args:Fo) (params:Int):Prop where
 XB:(kW X.m)[n]? =some d
 aeK:(kW X.m).idxOf d=first
 hle:first<=n
 aa4:d<X.m.bH.length
 aeL:n-first<(b8 X.m.bH d).cons.length
 Qi:dD (b8 X.m.bH d).cons (n-first)=args
 Q6:(b8 X.m.bH d).params=params
 OW:gH X.C.bH 0 n=(d,params,args)
theorem Mm:∀(l:List Nat) (d j:Nat),l[j]? =some d->l.idxOf d<=j
 |[],_,_,h=>by simp at h
 |a::l,d,j,h=>by
  rw[List.idxOf_cons];by_cases e:a=d
  ·subst e;simp
  ·rw[beq_eq_false_iff_ne.2 e];cases j with
   |zero=>simp at h;exact ay h e
   |succ j=>
    have:=Mm l d j (by simpa using h);show l.idxOf d+1<=j+1;omega
theorem aeM{X:CX}(i:Ds X)(j:jb X t.one)(k:t.a=3):∃n d first args params,t.n=((n:Nat):Int)/\Q5 X n d first args params/\args.len=t.k.len:=by
 have h:=j.node;unfold cS at h;rw[ah (by omega),ah (by omega),aq k]at h;simp only[ak,b_]at h;obtain⟨a,b⟩:=h;unfold fX at a;simp only[ak,decide_eq_true_eq]at a;obtain⟨n,c⟩:∃n:Nat,t.n=n:=⟨t.n.toNat,by omega⟩;rw[c]at a b;rw[bw]at b;obtain⟨_,_,f⟩:=ec i.mod;have o:(kW X.m).length=X.m.prog.sig.cons.length:=by
  unfold kW;rw[Av,f];unfold dx;simp
 have l:n<(kW X.m).length:=by omega
 obtain⟨d,g⟩:∃d,(kW X.m)[n]? =some d:=⟨_,ae l⟩;obtain⟨_,g2,g3,g4,g5,g6⟩:=Ml X.m.bH 0 n d g;refine⟨n,d,_,_,_,c,⟨g,rfl,g3,g2,g4,rfl,rfl,g5⟩,?_⟩;rw[f]at g6;have m:(dx X.m.prog.sig.cons)[n]? =some (bS X.m.prog.sig.cons n).args:=by
  unfold dx bS;rw[List.getElem?_map,ae (by omega)];rfl
 rw[m]at g6;have:=Option.some.inj g6;have e:((dD (b8 X.m.bH (d-0)).cons (n-(dH X.m.bH 0).idxOf d)).len:Int)=t.k.len:=by rw[<-this];exact b.symm
 exact Int.ofNat.inj e
theorem aa5{X:CX}(a:t.a=3){first:Nat}{args:Fo}{params:Int}(b:t.n=(n:Int))(h:Q5 X n d first args params)(c:Nat)(S:Ck):
 X.one t c S=eG (nB (X.ks t.k) (jW (b9 params.toNat S).1 args (b9 params.toNat S).2).2 (c+1) (jW (b9 params.toNat S).1 args (b9 params.toNat S).2).1) λe _=>some (gQ e 4 (d:Nat) (b9 params.toNat S).2):=by
 have e:X.one t c S=UE (gH X.C.bH 0 t.n).2.1.toNat (gH X.C.bH 0 t.n).2.2 (GG ((gH X.C.bH 0 t.n).1:Nat) (X.ks t.k) c) S:=by
  unfold CX.one xW;rw[ah (by omega),ah (by omega),aq a];rfl
 rw[e,b,h.OW];rfl
theorem Pb(l:List Nat)(d:Nat)(h:d∈l):idxOf (λk=>cN (cX l) k==(d:Int)) (cX l).length=(l.idxOf d:Nat):=by
 have a:=List.idxOf_lt_length_iff.2 h;refine xZ (by rw[eP];exact a) (λj b=> ?_) ?_
 ·rw[ky,beq_eq_false_iff_ne];intro e;have b:j<l.length:=by omega
  have c:l[j]? =some d:=by
   have:(l[j]?.getD 0:Nat)=d:=by omega
   rw[ae b]at this |-;exact congrArg some this
  have:=Mm l d j c;omega
 ·rw[ky,ae a];simp[List.getElem_idxOf]
theorem XC{args:Fo}{k:Nat}(a:k<args.len)(g:Gr)(l:List Nat)(c:∀x,args.has x->x.toNat<l.length):dO xJ (args.drop k) g l=((dO xJ (args.drop (k+1)) (dO xJ (args.at k).one g l).1.1 l).1,(dO xJ (args.at k).one g l).2.headD 0::(dO xJ (args.drop (k+1)) (dO xJ (args.at k).one g l).1.1 l).2):=by
 rw[Fo.mr a,LH];have d:=rL (args.at k).one g l λx b=>c x (Fo.E1 a b);rw[r9 _ _ _ λx b=>c x (Fo.E1 a b)]at d;have:(⟨(args.at k).a,(args.at k).n,(args.at k).k⟩:Nd)=args.at k:=rfl;rw[this,d]
attribute [local go_sem] aT cW df nV uV
theorem XD(W:World)(q:Nat)(nv:Value)(l:List Nat)(n:Int)(c:W.heap[q]? =some (.cells #[nv] 74 (0,0)))(hi:dw W nv l)(f:0<=n)(g:n.toNat<l.length):
 Calls Tryz.prog 274 #[.int .i64 n,.pointer (some ⟨q,0,none⟩)] W λe W'=>e=.returned (.int .i64 ((l[n.toNat]?.getD 0:Nat):Int))/\W'=W:=by
 obtain⟨k,rfl⟩:∃k:Nat,n=k:=⟨n.toNat,by omega⟩;have a:k<l.length:=by omega
 have i:l.length<=140737488355328:=by obtain⟨_,_,_,_,_,h,_⟩:=hi;exact h
 obtain⟨b,off,cap,rfl,j,c0⟩:=hi.cell a;have c2:=cZ c;have m:(k:Int)<(l.length:Int):=by omega
 have d:Hd ((l[k]?.getD 0:Nat)=(l[((k:Nat):Int).toNat]?.getD 0)):=hI (by rw[bw]);rw[<-d.o];generalize l[k]?.getD 0=x at c0;clear c hi f g d
 go_enter Tryz.func274,Tryz.ntmps274
 go_wp2;go_ret;exact⟨rfl,rfl⟩
theorem aeN{X:CX}{gv:Value}{ps:List Value}{uv:Value}{up:List Value}(h:cU X Z w S c r gv ps uv up){ub b0:Nat}{nv:Value}{l:List Nat}
 (b:w.heap[ub]? =some (.cells #[nv] 74 (0,0))) (d:w.ownsRow b0 3 1 nv l.length (cE (cX l))) (m:l.length<=1000) {T:Nd} {tv:Value} (f:T.one.nr) (i:∀x,T.one.has x->0<=x/\x.toNat<l.length) (j:cV w X.B tv T) (k:S.g.length+T.size<=1000000000):
 Calls Tryz.prog 73 #[.pointer (some ⟨X.gx,0,none⟩),tv,.func (.func 274) #[] #[.pointer (some ⟨ub,0,none⟩)]] w
  (rf X Z w c nV (some ({ S with g:=(dO xJ T.one S.g l).1.1},(dO xJ T.one S.g l).2.headD 0))):=by
 refine(Fm (V:=List Nat) (vf:=xJ) (P:=λx=>0<=x/\x.toNat<l.length) (E:=λ_=>False) (D:=λq=>q=ub\/nv.ownBlock=some q) (St:=λv W=>v=l/\W.heap[ub]? =some (.cells #[nv] 74 (0,0))/\W.ownsRow b0 3 1 nv l.length (cE (cX l))) (base:=X.base) (x:=X.gx) (B:=X.B)
  (gf:=274) (caps:= #[.pointer (some ⟨ub,0,none⟩)]) (enters_of Tryz.func274 (by kernel_rfl) rfl) (λg v x=>Nat.le_succ _) h.hB (λq hq=>hq.elim) (λ_ _ _ q hq=>hq.elim) (λv W dW q hq=> ?_) (λv W W' dW hk=> ?_) (λg v n W r gv ps a hg e G dW=> ?_)
  T.size T S.g l tv w r gv ps lR j f i h.gr h.lt.2.2 k ⟨rfl,b,d⟩).mono ?_
 ·exact ane
 ·exact anx
 ·obtain⟨rfl,h1,h2⟩:=dW;refine(XD W ub nv v n h1 (dw.pF h2 (by omega)) a.1 a.2).mono ?_;exact an0
 ·exact anL
theorem jM.parts{dv cv fv rv:Value}{m:Md}(h:jM w B (.agg #[dv,cv,fv,rv]) m):eB w B dv m.bH/\gD w B cv m.prog.sig.cons/\gD w B fv m.prog.sig.bj/\j4 w B rv m.prog.rules:=by
 obtain⟨d,c,f,r,e,a,b,g,i⟩:=h;simp only[Value.agg.injEq,Array.mk.injEq,List.cons.injEq,and_true]at e;obtain⟨rfl,rfl,rfl,rfl⟩:=e;exact⟨a,b,g,i⟩
theorem XE{X:CX}(a:Ds X)(b:d<X.m.bH.length):0<=(b8 X.m.bH d).params/\(b8 X.m.bH d).params<=3/\∀F∈(b8 X.m.bH d).cons,pR X.m.bH (b8 X.m.bH d).params F=true:=by
 have hm:b8 X.m.bH d∈X.m.bH:=by unfold b8;rw[ae b];exact aR _
 have h:=(ec a.mod).1;have hc:=vA h _ hm;rw[<-q_]at h;unfold oT at h;simp only[ak,aK]at h;have hp:=h.1.1.2 _ hm;unfold gM at hp;simp only[ak,decide_eq_true_eq]at hp;exact⟨hp.1.1.2,hp.1.2,hc⟩
theorem Mn{X:CX}(b:Ds X){first:Nat}{args:Fo}{params:Int}(h:Q5 X n d first args params):∃P:Nat,params=P/\P<=3/\args.nr/\args.jL/\(∀x,args.has x->0<=x/\x.toNat<P)/\args.size<=400/\args.len<=4:=by
 obtain⟨f,g,hc⟩:=XE b h.aa4;rw[h.Q6]at f g hc;have hm:args∈(b8 X.m.bH d).cons:=by rw[<-h.Qi];unfold dD;rw[ae h.aeL];exact aR _
 have a:=hc args hm;obtain⟨t1,t2⟩:=Jy a;have c:=b.sm.size n;have e:=b.sm.nr n;rw[h.OW]at c e;unfold pR at a;simp only[ak,decide_eq_true_eq]at a;exact⟨params.toNat,by omega,by omega,e,t1,λx i=>by have:=t2 x i;omega,c,a.1⟩
theorem XF{X:CX}(c:iA X S)(P:Nat){args:Fo}(f:args.size<=1000)(g:args.nr)(i:args.jL)(j:∀x,args.has x->0<=x/\x.toNat<P):
 iA X (jW (b9 P S).1 args (b9 P S).2).1/\(∀p∈(jW (b9 P S).1 args (b9 P S).2).2,p<(jW (b9 P S).1 args (b9 P S).2).1.g.length)/\(∀p∈(b9 P S).2,p<(b9 P S).1.g.length)/\nu S (jW (b9 P S).1 args (b9 P S).2).1 (P+args.size):=by
 obtain⟨k,d⟩:=Jz P c.ok.low;have a:=c.step k (kQ P S);have e:∀x,args.has x->0<=x/\x.toNat<(b9 P S).2.length:=λx b=>by rw[jS];exact j x b
 obtain⟨l,m⟩:=ON a.ok.low i (λx b=>(e x b).2) d;have s2:=BA (b9 P S).1 g f λx b=>(e x b).2;exact⟨a.step l s2,m,d,(kQ P S).trans s2 lR⟩
abbrev aeO:Oper:=⟨some 33,.load 74 (.tmp 6),74,du,#[],none⟩
abbrev aeP:Oper:=⟨some 34,.move (.tmp 0),147,du,#[],none⟩
abbrev aeQ:Oper:=⟨some 35,.nilCheck (.tmp 34),0,du,#[aj 1],none⟩
abbrev aeR:Oper:=⟨some 36,.fieldAddr 152 (.tmp 35) 0,0,du,#[aj 2],none⟩
abbrev aeS:Oper:=⟨some 37,.load 107 (.tmp 36),107,du,#[aj 3],none⟩
abbrev aeT:Oper:=⟨some 38,.call ⟨.value (.func 71),#[.tmp 37],#[107]⟩,3,du,#[aj 4],none⟩
abbrev aeU:Oper:=⟨some 39,.buildSlice 74 1 #[(0,.tmp 38)],74,du,#[aj 5],none⟩
abbrev aeV:Oper:=⟨some 40,.call ⟨.builtin .append,#[.tmp 33,.tmp 39],#[74,74]⟩,74,du,#[aj 0,aj 6,ao 5],none⟩
abbrev aeW:Oper:=⟨none,.store 74 (.tmp 6) (.tmp 40),0,du,#[aj 7,ao 7,al 0,al 1,al 2,al 3,al 4,al 5,al 6,al 7],none⟩
def Q7:Array Oper:= #[aeO,aeP,aeQ,aeR,aeS,aeT,aeU,aeV,aeW]
theorem aa6{X:CX}(hX:Ds X)(ht:jb X t.one)(hk:∀i,i<t.k.len->yH X (t.k.at i))(ha:t.a=3){first P:Nat}{args:Fo}(hn:t.n=(n:Int))(hc:Q5 X n d first args (P:Int))(l5:args.len=t.k.len):BC X 241 t:=by
 intro Z S c tv w h Q M hv;obtain⟨sv,rfl,hs⟩:=hv;obtain⟨E,sc,rfl⟩:=hs.slice;have j:t.size=1+t.k.size:=rfl;have m:=l5;have A:=aa5 (X:=X) ha hn hc c S;rw[j]at M |-;generalize O:X.one t c S=R at A |-;have ix:=hI A.symm;have HZW:=hI h.uq;have s:=Below.cA w (.cells #[.int .i64 t.a,.int .i64 t.n,.slice E t.k.len sc] 54);have C:vG (w.alloc (.cells #[.int .i64 t.a,.int .i64 t.n,.slice E t.k.len sc] 54)) w.heap.size t E sc:=a_ _ _;have G:X.B<=X.base:=by obtain⟨_,_,_,_,_,hh⟩:=h;exact hh.hB
 have HL:Hd (∀w',X.Kp w w'->dr w' X.B (.slice E t.k.len sc) t.k):=hI λw' f=>hs.below (h.low f G) lR;obtain⟨CI,fw,nY,HR,HO,HT,N,HHK,H1,JE,nR⟩:=h_11 (show X.B<=w.heap.size from ai G h.lt.2.2) (Aq (h.below s) (by have:=M.2.2;omega)) (dm.kp X s) M Q ht hX hk (h.below s) C m;clear h Q M hs s ha ht hX hk C j m G A O;rw[bw]at ix;obtain⟨P',B,hP3,D,L,a,H,T⟩:=Mn N.o hc;obtain rfl:P'=P:=by omega
 have y:Hd (args.nr/\args.jL/\(∀x,args.has x->0<=x/\x.toNat<P')/\args.size<=400/\args.len<=4):=hI ⟨D,L,a,H,T⟩;have z:=hI hc;have GS:=hI hn;have HZL:Hd (∀q,Z q->q<w.heap.size):=HZW;clear D L a H T B hc hn l5
 go_enter Tryz.func241,Tryz.ntmps241
 go_wp2_with fail
 refine fw.o.mono ?_;rintro e w2 ⟨iF,rfl,m⟩
 try clear c0 F
 have c0:=m.c0;have F:=af c0;obtain⟨Gp,lX,H2⟩:=h_3 (JE.o.keep H1.o iF) (nY.o.trans iF) m;clear iF m;obtain⟨r,gv,ps,uv,up,L⟩:=H2.o;have M:=cL.1 z.o.XB;have kH:(kW X.m).length<=140737488355328:=by obtain⟨_,_,_,_,_,h,_⟩:=L.kc;exact h
 obtain⟨kb,ko,kc,uA,I,a⟩:=L.kc.cell M.1;rw[z.o.XB,bK]at a;have c8:=L.at.c8;rw[uA]at c8;have t1:=Gp.o.cells.2.1;rw[GS.o]at t1;have zt:=af t1;have B:=af a;have hnI:(n:Int)<((kW X.m).length:Int):=by have:=M.1;omega
 have Uo:=hI L;clear L M
 go_wp2_with fail
 refine aM (by kernel_rfl) (by kernel_rfl) ?_
 repeat go_big_quiet_step (fail)
 refine wpQuiet_nil ?_;intro f M;have m:=Uo.o.below M;have Q:=lX.o.below M;have L:=Gp.o.below M;obtain⟨G,s⟩:=qS f (.cells #[.slice none 0 0] 74);have A:w.heap.size<f.heap.size:=(gE L).1;clear M c8 t1 a zt B c0 F
 go_upto_region 4 with fail
 refine eR (λY=>cU X Z Y S (c+1) r gv ps uv up/\X.Kp w Y/\Y.heap[f.heap.size]? =some (.cells #[.slice none 0 0] 74 (0,0))/\vG Y w.heap.size t E sc) ⟨m.below G,Q.below G,s,L.below G⟩ ?_;have U:=hI A;have HR3:=hI m;clear m Q L G s A;rintro w4 ⟨M,C,j,B⟩;obtain⟨db,dof,akh,dp,dpc,a,hdB,_,d1,d2,XG,_⟩:=iR M.md.parts.1 bR z.o.aa4;rw[z.o.Q6]at d1;have c1:=M.at.c1;rw[a]at c1;have RA:=M.md.parts.1.small;have hdI:(d:Int)<(X.m.bH.length:Int):=by have:=z.o.aa4;omega
 have F:=af c1;have zd:=af d1;obtain⟨H4,oy,oU,aeg,HDV⟩:=h_5 M C j B a;clear M C j B d2 XG a;go_wp2;clear c1 d1 F zd
 go_loopw [31] (λi wr=>∃(k:Nat) (r1:Option Nat) (Q2:Value) (LA:List Value) (nv:Value),k<=P'/\i=.int .i64 k/\cU X (ZR Z nv) wr (b9 k S).1 (c+1) r1 Q2 LA uv up/\X.Kp w wr/\
  wr.heap[f.heap.size]? =some (.cells #[nv] 74 (0,0))/\wr.ownsRow w.heap.size 3 1 nv k (cE (cX (b9 k S).2))/\vG wr w.heap.size t E sc) (λi _=>P'-(intOf i).toNat)
 case atStart=>
  exact⟨0,r,gv,ps,.slice none 0 0,aw _,rfl,H4.o.z λq j=>j.resolve_right (by intro e;cases e),oy.o,oU.o,aZ _ _ _ _,aeg.o⟩
 case round=>
  obtain⟨k,r1,Q2,LA,nv,FQ,rfl,L,M,a,m,s⟩:=hrel;obtain⟨W,vc,rfl⟩:=cr m;have su:=jS k S;obtain⟨J,Hb,HX5,uk,aeZ⟩:=h_5 L M a m s;clear L M a m s;by_cases bO:k<P'
  ·have x2:=cZ HX5.o;have c0:=J.o.at.c0;have zx:=af x2;clear su;go_wp2;refine ff (S:=λV=>V.cell? ⟨f.heap.size,0,none⟩=some (.slice W k vc)/\V.cell? ⟨X.cx,0,none⟩=some (.pointer (some ⟨X.gx,0,none⟩))) 8 (by kernel_rfl) (by decide) (⟨x2,c0⟩) (λhHeld=> ?_)
   change mI _ _ Q7 _ _ _ _ _ _ _ _
   refine oD (λZ=>Below wr.heap.size wr Z) (Below.ia bR) hHeld ?_;clear hHeld;rintro V a hHeld;refine qH 0 ⟨some 33,.load 74 (.tmp 6),74,du,#[],none⟩ hHeld ?_;refine qH 1 ⟨some 34,.move (.tmp 0),147,du,#[],none⟩ hHeld ?_;refine qH 2 ⟨some 35,.nilCheck (.tmp 34),0,du,#[aj 1],none⟩ hHeld ?_;refine qH 3 ⟨some 36,.fieldAddr 152 (.tmp 35) 0,0,du,#[aj 2],none⟩ hHeld ?_;refine qH 4 ⟨some 37,.load 107 (.tmp 36),107,du,#[aj 3],none⟩ hHeld ?_;have k_:(b9 k S).1.g.length<=1000000000:=by have:=(kQ k S).len;have:=HR.o.1;omega
   have m:=J.o.below a;obtain⟨HCF,HV,HXV,HOV,Sz,akz⟩:=h_6 (Ij m k_) m (bQ HX5.o a zx) (gC uk.o (CK.below a)) (Hb.o.below a) (aeZ.o.below a);clear m a x2 c0 zx;refine qO 5 ⟨some 38,.call ⟨.value (.func 71),#[.tmp 37],#[107]⟩,3,du,#[aj 4],none⟩ λK L=> ?_;go_simp;refine HCF.o.mono ?_;rintro e B ⟨rfl,r6,C,D,h6,s⟩;have A:=s.keep HV.o.gr HXV.o ⟨by decide,by decide⟩;have M:=nD HOV.o (λq cu j=>s.keep HV.o.gr j ⟨by decide,by decide⟩);have G:=s.keep HV.o.gr akz.o ⟨by decide,by decide⟩;have O:=hI A;have HO6:=hI M;have Fk:=hI (Sz.o.trans (HV.o.kp s));have H6:=hI h6;have akA:Hd (vG B w.heap.size t E sc):=hI G;clear A M s h6 hHeld G;have Q:∀Y:World,Y.heap[f.heap.size]? =some (.cells #[.slice W k vc] 74 (0,0))->Y.cell? ⟨f.heap.size,0,none⟩=some (.slice W k vc):=λY h=>by rw[cell_of_row _ _ _ _ _ _ h];rfl
   have N:=hI Q;clear Q;refine qK L (⟨N.o _ O.o,H6.o.at.c0⟩) λhHeld=> ?_;clear L K;have fF:=Below.cA B (.cells #[.int .i64 ((b9 k S).1.g.length:Nat)] 3);obtain⟨O7,G,M,B_,akB,Sf⟩:=h_6 (cY fF O.o) (H6.o.below fF) (gC HO6.o (CK.below fF)) (Fk.o.below fF) (akA.o.below fF) (a_ B (.cells #[.int .i64 ((b9 k S).1.g.length:Nat)] 3));clear fF;refine qO 6 ⟨some 39,.buildSlice 74 1 #[(0,.tmp 38)],74,du,#[aj 5],none⟩ λK L=> ?_;go_simp;refine qK L (⟨N.o _ O7.o,G.o.at.c0⟩) λhHeld=> ?_;clear L K;refine qO 7 ⟨some 40,.call ⟨.builtin .append,#[.tmp 33,.tmp 39],#[74,74]⟩,74,du,#[aj 0,aj 6,ao 5],none⟩ λK L=> ?_;rw[aq (by rfl)];refine JF Cp _ _ rfl rfl M.o (q:=B.heap.size) (us:=[.int .i64 ((b9 k S).1.g.length:Nat)]) rfl Sf.o rfl (one_one rfl) (by omega) (by have:=B_.o.size;omega) ?_;intro v' A Cr Pc aa8;obtain⟨m,s,rfl⟩:=cr Cr;have eC:∀{q:Nat} {cu:Array Value} {ty:TypeId},ty≠3->(B.alloc (.cells #[.int .i64 ((b9 k S).1.g.length:Nat)] 3)).heap[q]? =some (.cells cu ty (0,0))->A.heap[q]? =some (.cells cu ty (0,0)):=λ{q cu ty} jD j=>
    (Pc.block _ (gE j).1 (λe=>lQ M.o j jD _ e.symm rfl)).trans j
   obtain⟨a,H7,XA,Q⟩:=h_4 (eC (by decide) O7.o) (G.o.append M.o Pc aa8 Cr CI.o) (CX.Kp.grow (X:=X) B_.o Pc (λq j=>(iI M.o q j).1)) Cr;have akC:Hd (vG A w.heap.size t E sc):=hI (eC (by decide) akB.o);clear Cr Pc aa8 eC;refine qK L (⟨N.o _ a.o,H7.o.at.c0⟩) λhHeld=> ?_;clear L K;refine jQ (by kernel_rfl) ?_
   change wpList _ Q7 _ [⟨none,.store 74 (.tmp 6) (.tmp 40),0,du,#[aj 7,ao 7,al 0,al 1,al 2,al 3,al 4,al 5,al 6,al 7],none⟩] _ _
   clear hHeld;have x7:=N.o _ a.o;have z7:=af x7;have f7:A.frozen? ⟨f.heap.size,0,none⟩=false:=by simp[World.frozen?,a.o]
   have L:Hd (cU X (ZR Z (.slice m (k+1) s)) (A.setCell ⟨f.heap.size,0,none⟩ (.slice m (k+1) s)) (b9 (k+1) S).1 (c+1) r6 C D uv up/\X.Kp w (A.setCell ⟨f.heap.size,0,none⟩ (.slice m (k+1) s))/\
    (A.setCell ⟨f.heap.size,0,none⟩ (.slice m (k+1) s)).heap[f.heap.size]? =some (.cells #[.slice m (k+1) s] 74 (0,0))/\
    (A.setCell ⟨f.heap.size,0,none⟩ (.slice m (k+1) s)).ownsRow w.heap.size 3 1 (.slice m (k+1) s) (k+1) (cE (cX (b9 (k+1) S).2))/\vG (A.setCell ⟨f.heap.size,0,none⟩ (.slice m (k+1) s)) w.heap.size t E sc):=hI (by
    have hs:=yJ k S;rw[hs];refine⟨H7.o.Xu a.o (by decide) (by decide) (by decide) (by decide) (λe=> ?_) (by have:=CI.o;have:=U.o;omega),XA.o.UZ (p:=⟨f.heap.size,0,none⟩) (bt U.o) _,?_,?_,(au _ _ _ _ (show w.heap.size≠f.heap.size by have:=U.o;omega)).trans akC.o⟩
    ·have:=(iI HR3.o.us.own _ e).2;omega
    ·simp only[World.setCell,Array.getElem?_modify,if_true,a.o,Option.map_some];rfl
    ·have:=mi (o:=0) (x:=.slice m (k+1) s) Q.o a.o (by decide);rw[kO,<-eZ];exact this)
   go_wp2
   go_roundw
   case rel=>exact⟨k+1,r6,C,D,_,by omega,by go_num,L.o.1,L.o.2.1,L.o.2.2.1,L.o.2.2.2.1,L.o.2.2.2.2⟩
   case measure=>simp[intOf];omega
  ·obtain rfl:k=P':=by omega
   have c8:=J.o.at.c8;have c1:=J.o.at.c1;rw[HDV.o]at c1;have L:=Pb (kW X.m) d (List.mem_of_getElem? z.o.XB);rw[z.o.aeK]at L;have m:=x9 X.kv (cX (kW X.m)) (d:Int) wr J.o.kc.ints;rw[L]at m;rw[uA]at c8 m;have HIC:=hI m;clear uA L m;obtain⟨db2,al0,alE,dp,dpc,air,al1,_,_,d2,XG,_⟩:=iR J.o.md.parts.1 bR z.o.aa4;rw[HDV.o]at air;cases air;obtain⟨fb,fof,NT,fp,Zg,Du,hfB,a0,a⟩:=mq XG bR z.o.aeL;cases Du;rw[z.o.Qi]at a0 a;have aht:=XG.small;have t1:=aeZ.o.cells.2.1;rw[GS.o]at t1;have nG:(n:Int)-(first:Int)=((n-first:Nat):Int):=by have:=z.o.hle;omega
   have hsI:((n-first:Nat):Int)<((b8 X.m.bH d).cons.length:Int):=by have:=z.o.aeL;omega
   have F:=af c1;have zt:=af t1;have zd:=af d2;have B:=af a0;have Gg:=hI a;have qM:(n:Int)<=140737488355328:=by omega
   have uF:(first:Int)<=140737488355328:=by have:=z.o.hle;omega
   clear XG a
   go_wp2_with (go_at_call 191;refine HIC.o.mono ?_;rintro e w' ⟨rfl,m⟩;rw[m];clear m w')
   refine aM (by kernel_rfl) (by kernel_rfl) ?_
   repeat go_big_quiet_step (fail)
   refine wpQuiet_nil ?_;intro w8 L;obtain⟨HA8,A,HK8,HX8,HO8,akD⟩:=h_6 (Gg.o.below (L.mono (ai J.o.hB J.o.lt.2.2)) lR) (J.o.below L) (Hb.o.below L) (cY L HX5.o) (gC uk.o (CK.below L)) (aeZ.o.below L);clear L c8 c1 t1 d2 a0 F zt zd B;have T:args.len<=4:=y.o.2.2.2.2;have Gq:=hI su;clear su;obtain⟨s,m⟩:=xE ((b9 k S).1);obtain⟨l,a⟩:=xE ((b9 k S).2);rw[<-m]at A;rw[<-a]at HO8 Gq;have Up:=hI m;have wQ:=hI a;have HGB:Hd (s.g.length+args.size<=999999990):=hI (by have:=(kQ k S).len;rw[<-m]at this;have:=HR.o.1;have:=y.o.2.2.2.1;omega);clear m a;go_wp2
   go_loopw [8,64] (λov i wr=>∃(a:Nat) (g:Gr) (r2:Option Nat) (gv2:Value) (Zp:List Value) (uv2:Value) (up2:List Value) (wv:Value) (ws:List Nat),a<=args.len/\ov=wv/\i=.int .i64 a/\cU X (ZR (ZR Z (.slice W k vc)) wv) wr { s with g:=g} (c+1) r2 gv2 Zp uv2 up2/\X.Kp w8 wr/\
    wr.ownsRow w8.heap.size 3 1 wv a (cE (cX ws))/\ws.length=a/\dO xJ args s.g l=((dO xJ (args.drop a) g l).1,ws++(dO xJ (args.drop a) g l).2)/\g.length+(args.drop a).size<=s.g.length+args.size) (λ_ i _=>args.len-(intOf i).toNat)
   case atStart=>
    exact⟨0,s.g,r1,Q2,LA,uv,up,.slice none 0 0,[],aw _,rfl,rfl,A.o.z λq j=>j.resolve_right (by intro e;cases e),iC.refl _,aZ _ _ _ _,rfl,by rw[Fo.drop_zero];rfl,by rw[Fo.drop_zero];exact lR⟩
   case round=>
    obtain⟨a,g,r2,gv2,Zp,uv2,up2,wv,ws,iF,rfl,rfl,O,G,B,hwl,OW,k_⟩:=hrel;obtain⟨vb,vd,rfl⟩:=cr B;by_cases mT:a<args.len
    ·obtain⟨b,off,cap,p,pc,ui,fF,f0,f1,f2,yI⟩:=dC HA8.o (A.o.low G A.o.hB) mT;cases ui;have zb:=af f0;obtain⟨L,hnk⟩:=qS wr (.cells #[.int .i64 (args.at a).a,.int .i64 (args.at a).n,.slice p (args.at a).k.len pc] 26);have C:=A.o.at.stays G HX8.o (by decide) (by decide) (by unfold Ic;decide);have D:=A.o.at.own G HO8.o;have Zx:=Fo.Ar mT;have hvx:∀x,(args.at a).one.has x->0<=x/\x.toNat<l.length:=λx hx=>by rw[Gq.o];exact y.o.2.2.1 x (Fo.E1 mT hx)
     have ais:=XC mT g l (λx hx=>by rw[Gq.o];exact(y.o.2.2.1 x hx).2);have H:=y.o.2.2.2.1;have akE:=Fo.eD mT;have JH:g.length+(args.at a).size<=1000000000:=by have:=HGB.o;omega
     have XH:=hI (λV (hV:Below (wr.alloc (.cells #[.int .i64 (args.at a).a,.int .i64 (args.at a).n,.slice p (args.at a).k.len pc] 26)).heap.size (wr.alloc (.cells #[.int .i64 (args.at a).a,.int .i64 (args.at a).n,.slice p (args.at a).k.len pc] 26)) V)=>
      have m:=ag L hV lR
      aeN (O.below m) (ub:=f.heap.size) (nv:=.slice W k vc) (l:=l) (cY m C) (by rw[Gq.o];exact gC D (CK.below m)) (by rw[Gq.o];omega) (Fo.Ol y.o.1 mT) hvx (tv:=.agg #[.int .i64 (args.at a).a,.int .i64 (args.at a).n,.slice p (args.at a).k.len pc]) ⟨_,rfl,yI.below (m.mono (ai O.hB O.lt.2.2)) lR⟩ JH)
     obtain⟨m,Q,zP,HNK⟩:=h_4 (G.below L) (O.below L) (gC B (CK.below L)) hnk;have AN:Hd ((dO xJ (args.at a).one g l).1.1.length+(args.drop (a+1)).size<=s.g.length+args.size):=hI (by
      have:=mC (vf:=xJ) (λg v x=>Nat.le_succ _) (args.at a).one g l;rw[Nd.jr]at this;omega)
     have OZ:Hd (dO xJ args s.g l=((dO xJ (args.drop (a+1)) (dO xJ (args.at a).one g l).1.1 l).1,(ws++[(dO xJ (args.at a).one g l).2.headD 0])++(dO xJ (args.drop (a+1)) (dO xJ (args.at a).one g l).1.1 l).2)):=hI (by rw[OW,ais];simp);have HWL:=hI hwl;have nk:=hI mT;have EL:∀(fn:Fn) (first cap:Array Value) (w:World),(Instr.makeFunc fn first cap).run Tryz.prog w=.ok (.func fn first cap) w:=λ_ _ _ _=>rfl;have om:(a:Int)<(args.len:Int):=by omega
     clear O G B hwl OW k_ yI L hnk C D Zx hvx ais H akE JH
     go_upto_region 13 with fail
     refine eR (λY=>cU X (ZR (ZR Z (.slice W k vc)) (.slice vb a vd)) Y { s with g:=g} (c+1) r2 gv2 Zp uv2 up2/\X.Kp w8 Y/\Y.ownsRow w8.heap.size 3 1 (.slice vb a vd) a (cE (cX ws))/\Y.heap[wr.heap.size]? =some (.cells #[.int .i64 (args.at a).a,.int .i64 (args.at a).n,.slice p (args.at a).k.len pc] 26 (0,0))/\
      ∀V,Below Y.heap.size Y V->Calls Tryz.prog 73 #[.pointer (some ⟨X.gx,0,none⟩),.agg #[.int .i64 (args.at a).a,.int .i64 (args.at a).n,.slice p (args.at a).k.len pc],.func (.func 274) #[] #[.pointer (some ⟨f.heap.size,0,none⟩)]] V
       (rf X (ZR (ZR Z (.slice W k vc)) (.slice vb a vd)) V (c+1) nV (some ({ s with g:=(dO xJ (args.at a).one g l).1.1},(dO xJ (args.at a).one g l).2.headD 0)))) ⟨Q.o,m.o,zP.o,HNK.o,XH.o⟩ ?_
     clear Q m zP HNK XH f0 f1 f2 zb;rintro wy ⟨hy1,hy2,hy3,L,hy5⟩;have x0:=cZ L;have x1:=eY L;have x2:=fu L;have c0:=hy1.at.c0;have F:=af c0;have zx:=af x0;obtain⟨Q,m,zP,XH⟩:=h_4 hy1 hy2 hy3 hy5;clear hy1 hy2 hy3 L hy5;refine gw 6 (by kernel_rfl) (by kernel_rfl) ?_;simp only[List.take_succ_cons,List.take_zero,List.drop_succ_cons,List.drop_zero]
     repeat go_big_quiet_step (fail)
     refine wpQuiet_nil ?_;intro wa AO;obtain⟨Zv,CV,ait,L⟩:=h_4 (XH.o wa AO) (m.o.below AO) (Q.o.below AO) (gC zP.o (CK.below AO));clear AO XH x0 x1 x2 c0 F zx m Q zP
     go_wp2_with fail
     refine Zv.o.mono ?_;rintro e wb ⟨I,rfl,akF⟩;have xe:=ait.o.at.own I L.o;have m:=CV.o.trans I;obtain⟨r3,gv3,ps3,uv3,up3,h3⟩:=akF;generalize CT:(dO xJ (args.at a).one g l).2.headD 0=mm at OZ |-;generalize tS:(dO xJ (args.at a).one g l).1.1=gg at OZ AN h3;have kP:=Below.cA wb (.cells #[.int .i64 (mm:Nat)] 3);obtain⟨Sf,M,Wl,H3⟩:=h_4 (a_ wb (.cells #[.int .i64 (mm:Nat)] 3)) (gC xe (CK.below kP)) (m.below kP) (h3.below kP);clear xe I m h3 kP CT tS Zv CV ait L
     go_wp2_with (at_builtin;refine lM rfl Cp _ _ rfl rfl M.o (q:=wb.heap.size) (us:=[.int .i64 (mm:Nat)]) rfl Sf.o rfl (one_one rfl) (by omega) (by have:=Wl.o.size;omega) ?_;intro v' wc Q8 m aiv)
     obtain⟨vb',vd',rfl⟩:=cr Q8;have Uq:=hI (H3.o.append M.o m aiv Q8 (ai A.o.hB A.o.lt.2.2));have HKC:=hI (CX.Kp.grow (X:=X) Wl.o m (λq j=>(iI M.o q j).1));have HOC:Hd (wc.ownsRow w8.heap.size 3 1 (.slice vb' (a+1) vd') (a+1) (cE (cX (ws++[mm])))):=hI (by rw[kO,<-eZ];exact Q8);clear Q8 m aiv;go_wp2
     go_roundw
     case rel=>exact⟨a+1,gg,r3,gv3,ps3,uv3,up3,_,ws++[mm],by have:=nk.o;omega,rfl,by go_num,Uq.o,HKC.o,HOC.o,by rw[az,HWL.o];rfl,OZ.o,AN.o⟩
     case measure=>have:=nk.o;simp[intOf];omega
    ·obtain rfl:a=args.len:=by omega
     rw[Fo.ie lR,Dp,bk]at OW;have Mo:=r9 args s.g l (λx hx=>by rw[Gq.o];exact(y.o.2.2.1 x hx).2);have jD:jW s args l=({ s with g:=g},ws):=by unfold jW;rw[Mo,OW]
     obtain⟨M,yU,hq3,Zd⟩:=XF HO.o k (by have:=y.o.2.2.2.1;omega) y.o.1 y.o.2.1 y.o.2.2.1;rw[<-Up.o,<-wQ.o,jD]at M yU Zd;have ox:Hd (eG (nB (X.ks t.k) ws (c+1) { s with g:=g}) (λS1 _=>some (gQ S1 4 (d:Nat) l))=R):=hI (by have:=ix.o;rw[<-Up.o,<-wQ.o,jD]at this;exact this);have C:=A.o.at.stays G HX8.o (by decide) (by decide) (by unfold Ic;decide);have D:=A.o.at.own G HO8.o;have m:=akD.o.keep A.o.at G;obtain⟨t0,t1,t2⟩:=m.cells;have zt:=af t0;have Ug:=HK8.o.trans G;have Ta:=aaQ N.o HT.o.kids HHK.o O.at M (HR.o.next Zd (by have:=y.o.2.2.2.1;omega)) (tv:=.agg #[.int .i64 t.a,.int .i64 t.n,.slice E t.k.len sc]) ⟨_,rfl,HL.o _ Ug⟩ (dw.pF B (by omega)) (by rw[hwl,nR.o]) yU;obtain⟨HN,Q,Nn,HXP,HOP⟩:=h_5 (λS' u e=>SZ (S':=S') (u:=u) (c:=c+1) N.o HT.o.kids M yU e) O Ug C D;rw[show c+1+t.k.size=c+(1+t.k.size)by omega]at Ta;have LC:Hd (g.length+1000*t.k.size<=999999990):=hI (by have h:=Zd.len;have:=HR.o.1;have:=y.o.2.2.2.1;have h':g.length<=S.g.length+(k+args.size):=h;omega);clear OW Mo jD M yU hq3 Zd C D m Ug O G B k_ ix;cases he:nB (X.ks t.k) ws (c+1) { s with g:=g} with
     |none=>
      rw[he]at Ta ox;have Kh:=hI Ta;clear Ta he
      go_wp2_with fail
      refine Kh.o.mono ?_;rintro e wa ⟨m,rfl⟩;have CV:=hI (Nn.o.trans m);clear m;obtain rfl:none=R:=ox.o;go_wp2;exact⟨rfl,CV.o,rfl⟩
     |some q=>
      obtain⟨S2,u⟩:=q;have lG:=hI (HN.o S2 u he);rw[he]at Ta ox;have Kh:=hI Ta;clear Ta he HN
      go_wp2_with fail
      refine Kh.o.mono ?_;rintro e wa ⟨m,rfl,ha⟩;have M:=Q.o.at.stays m HXP.o (by decide) (by decide) (by unfold Ic;decide);have hoA:=Q.o.at.own m HOP.o;have x0:=cZ M;have c0:=ha.c0;have zx:=af x0;have F:=af c0;obtain⟨CV,HA,L⟩:=h_3 (Nn.o.trans m) (ha.z (Z':=Z) λq j=>.inl (.inl j)) hoA;obtain rfl:_=R:=ox.o;clear m ha M hoA t0 t1 t2 zt Kh
      go_wp2_with fail
      refine gw 6 (by kernel_rfl) (by kernel_rfl) ?_;simp only[List.take_succ_cons,List.take_zero,List.drop_succ_cons,List.drop_zero]
      repeat go_big_quiet_step (fail)
      refine wpQuiet_nil ?_;intro wb M;have B_:=hI (CV.o.below M);have xe:=gC L.o (CK.below M);have HCP:=hI (Fh (HA.o.below M) (by have h:=lG.o.2.2.len;have:=LC.o;have h':S2.g.length<=g.length+1000*t.k.size:=h;omega) 4 3 (d:Nat) rfl (dw.pF xe (by rw[Gq.o];omega)) (lD.own xe HZL.o));clear M xe c0 x0 zx F
      go_wp2_with fail
      refine HCP.o.mono ?_;rintro e wd ⟨yI,rfl,M⟩;have WT:=hI (B_.o.trans yI);have HD:=hI M;clear yI M;go_wp2;go_ret;exact⟨WT.o,rfl,HD.o⟩
theorem ae1{X:CX}(a:Ds X)(b:jb X t.one)(e:∀i,i<t.k.len->yH X (t.k.at i))(c:t.a=3):BC X 241 t:=by
 obtain⟨n,d,first,args,params,f,hc,g⟩:=aeM a b c;obtain⟨P,rfl,_⟩:=Mn a hc;exact aa6 a b e c f hc g
def wX(f:Nat)(p:Value):Value:=.func (.func f) #[p] #[]
def rF(p:Value):Array Value:= #[.nilFunc,wX 239 p,wX 240 p,wX 241 p,wX 242 p,wX 242 p,
 wX 243 p,wX 244 p,wX 245 p,wX 246 p,wX 247 p,
 wX 248 p,wX 248 p,wX 249 p,wX 249 p,wX 250 p]
theorem XI(x:Nat)(w:World):aH Tryz.prog 211 #[.pointer (some ⟨x,0,none⟩)] w (.agg (rF (.pointer (some ⟨x,0,none⟩)))):=by
 have e:=a_ w (.cells (Array.replicate 16 .nilFunc) 253);have f:=Below.cA w (.cells (Array.replicate 16 .nilFunc) 253);have i:∀(fn:Fn) (first cap:Array Value) (w:World),(Instr.makeFunc fn first cap).run Tryz.prog w=.ok (.func fn first cap) w:=λ_ _ _ _=>rfl;have b:(Tryz.prog.info? 253).map (·.size)=some 16:=by kernel_rfl
 have a:(w.alloc (.cells (Array.replicate 16 .nilFunc) 253)).there w.heap.size 0 (rF (.pointer (some ⟨x,0,none⟩))).size:=uN e (by rfl);have c:=hI (show _/\_/\_ from⟨a,b,run_loadVar_mid (P:=Tryz.prog) _ w.heap.size 0 253 (rF (.pointer (some ⟨x,0,none⟩))).toList _ (World.rangeAt_setCells_same (w.alloc (.cells (Array.replicate 16 .nilFunc) 253)) _ 0 _ a) Tryz.underlying253 rfl b⟩);have g:=hI (h_ lR (rF (.pointer (some ⟨x,0,none⟩))).toList 0 (w.alloc (.cells (Array.replicate 16 .nilFunc) 253)) f);have d:Hd ((rF (.pointer (some ⟨x,0,none⟩))).all (·.oneCell')=true):=hI (by simp[rF,wX,Value.oneCell']);clear a b e f;unfold aH
 go_enter Tryz.func211,Tryz.ntmps211
 go_wp2_with (refine wpList_store_mid rfl 253 _ _ rfl w.heap.size 0 (rF (.pointer (some ⟨x,0,none⟩))) rfl rfl c.o.1 c.o.2.1 d.o ?_)
 exact bodyPost_ret (v:=.agg (rF (.pointer (some ⟨x,0,none⟩)))) (di rfl rfl c.o.2.2) rfl ⟨rfl,g.o⟩
theorem Dv{X:CX}(hm:BC X f t)(a:∀(p:Value) (w:World),(Instr.index 253 (.agg (rF p)) (.int .i64 t.a)).run Tryz.prog w=.ok (.func (.func f) #[p] #[]) w)
 (y:∀args w,(callFunc f args).run Tryz.prog w=.ok (.enter f args) w):yH X t:=by
 intro Z S c tv w h j k z;obtain⟨sv,rfl,b⟩:=z;obtain⟨d,sc,rfl⟩:=b.slice;obtain⟨l,n⟩:=qS w (.cells #[.int .i64 t.a,.int .i64 t.n,.slice d t.k.len sc] 54);have o:X.B<=w.heap.size:=by obtain⟨_,_,_,_,_,r⟩:=h;exact ai r.hB r.lt.2.2
 have s:=hI l;have u:=hI n;have g:Hd (∀V,Below w.heap.size w V->Calls Tryz.prog f #[.pointer (some ⟨X.cx,0,none⟩),.agg #[.int .i64 t.a,.int .i64 t.n,.slice d t.k.len sc]] V (rf X Z V (c+t.size) nV (X.one t c S))):=hI λV v=>hm Z S c _ V (h.below v) j k ⟨_,rfl,b.below v o⟩;generalize A:X.one t c S=R at g |-;have x:=hI (XI X.cx);obtain⟨T,i⟩:=xE (rF (.pointer (some ⟨X.cx,0,none⟩)));have B:∀w:World,(Instr.index 253 (.agg T) (.int .i64 t.a)).run Tryz.prog w=.ok (.func (.func f) #[.pointer (some ⟨X.cx,0,none⟩)] #[]) w:=λw=>by rw[i];exact a _ w
 rw[<-i]at x;clear h j k b l n o hm a A i
 go_enter Tryz.func162,Tryz.ntmps162
 go_wp2;refine eR (λY=>Below w.heap.size w Y/\Y.heap[w.heap.size]? =some (.cells #[.int .i64 t.a,.int .i64 t.n,.slice d t.k.len sc] 54 (0,0))) ⟨s.o,u.o⟩ ?_;rintro w1 ⟨i,b⟩;have t0:=cZ b;have t1:=eY b;have t2:=fu b;have n:=af t0;have o:=hI i;clear i b s u;refine gw 6 (by kernel_rfl) (by kernel_rfl) ?_;simp only[List.take_succ_cons,List.take_zero,List.drop_succ_cons,List.drop_zero]
 repeat go_big_quiet_step ((with_reducible exact aH.quiet (x.o _)))
 refine wpQuiet_nil ?_;intro i j;have b:=ag o.o j lR;have k:=hI (g.o i b);have l:Hd (X.Kp w i):=hI (dm.kp X b);clear j b t0 t1 t2 n g;cases R with
 |none=>
  go_wp2_with fail
  refine k.o.mono ?_;rintro e n ⟨b,rfl⟩;have g:=hI (l.o.trans b);clear b;go_wp2;exact⟨rfl,g.o,rfl⟩
 |some q=>
  obtain⟨S2,m⟩:=q
  go_wp2_with fail
  refine k.o.mono ?_;rintro e n ⟨b,rfl,j⟩;have g:=hI (l.o.trans b);have s:=hI j;clear b j;go_wp2;go_ret;exact⟨g.o,rfl,s.o⟩
theorem XJ{s:Sg}{a n:Int}{len:Nat}(h:cS s a n len=true)(u:a<=4):a=1\/a=2\/a=3\/a=4:=by
 rcases Ef a with e|e|e|e|e|e|e|⟨j,k,l,m,o,p,q,r,t,b,c,d,f,g,i⟩
 any_goals omega
 exfalso;simp only[beq_eq_false_iff_ne]at*;unfold cS at h;rw[ah j,ah k,ah l,ah m,ah o,ah r]at h;unfold Ja at h;simp[p,q,t,b,c,d,f,g,i]at h
theorem Dw{X:CX}(c:Ds X):∀(m:Nat) (t:Nd),t.size<=m->jb X t.one->yH X t
 |0,t,h,_=>ay h (by unfold Nd.size;omega)
 |m+1,t,h,b=>by
  have d:∀i,i<t.k.len->yH X (t.k.at i):=λi hi=>Dw c m _ (by have:=Fo.eD hi;unfold Nd.size at*;omega) (b.kids.at hi);rcases XJ b.node (Fo.wG.1 b.low).1 with a|a|a|a
  ·exact Dv (Mg b a) (λp w=>by rw[a];kernel_rfl) (enters_of Tryz.func239 (by kernel_rfl) rfl)
  ·exact Dv (SX b a) (λp w=>by rw[a];kernel_rfl) (enters_of Tryz.func240 (by kernel_rfl) rfl)
  ·exact Dv (ae1 c b d a) (λp w=>by rw[a];kernel_rfl) (enters_of Tryz.func241 (by kernel_rfl) rfl)
  ·exact Dv (aeJ c b d (.inl a)) (λp w=>by rw[a];kernel_rfl) (enters_of Tryz.func242 (by kernel_rfl) rfl)
def CX.vH(X:CX)(q:Nat):CX:={ X with eb:=q}
theorem CX.Kp.eb{X:CX}{w1 w':World}(h:(X.vH q).Kp w1 w')(a:X.Kp w w1)(g:w.heap.size<=q):X.Kp w w':=
 ⟨h.os.trans a.os,h.tape.trans a.tape,h.output.trans a.output,ai a.size h.size,λk o c b d=>h.same k o (a.same k o c b d) (λf=>by
  rcases f with e|e|e|e
  ·exact b (.inl e)
  ·exact b (.inr (.inl e))
  ·exact b (.inr (.inr (.inl e)))
  ·have:=(gE c).1;have i:k=q:=e;omega) d⟩
theorem cU.ae2{X:CX}{gv:Value}{ps:List Value}{uv:Value}{up:List Value}(h:cU X Z w S c r gv ps uv up){E:En}(s:∀y,0<=y->look E y=none)(u:∀y,y<0->look S.env y=look E y):
 cU (X.vH w.heap.size) Z ((w.alloc (.map #[] 0)).setCell ⟨X.cx,7,none⟩ (.map (some w.heap.size))) { S with env:=E} c r gv ps uv up/\X.Kp w ((w.alloc (.map #[] 0)).setCell ⟨X.cx,7,none⟩ (.map (some w.heap.size))):=by
 have l:=Below.cA w (.map #[] 0);have a:=h.below l;obtain⟨A,B,C,D,F,G,n7,n8,H⟩:=h.ne;have v:=h.lt;have x:∀(q:Nat) (o:Obj),(w.alloc (.map #[] 0)).heap[q]? =some o->q≠X.cx->((w.alloc (.map #[] 0)).setCell ⟨X.cx,7,none⟩ (.map (some w.heap.size))).heap[q]? =some o:=λq o g eC=>(au _ _ _ _ eC).trans g;have i:∀(q:Nat) (cur:Array Value) (t:TypeId) (f:Nat×Nat),t≠152->(w.alloc (.map #[] 0)).heap[q]? =some (Obj.cells cur t f)->((w.alloc (.map #[] 0)).setCell ⟨X.cx,7,none⟩ (.map (some w.heap.size))).heap[q]? =some (Obj.cells cur t f):=λq cur t f z d=>x _ _ d (λe=>by
  subst e;rw[a.fW]at d;cases d;exact z rfl)
 have j:tX Z (w.alloc (.map #[] 0)) ((w.alloc (.map #[] 0)).setCell ⟨X.cx,7,none⟩ (.map (some w.heap.size))):=λb cur f k _=>i _ _ _ _ (by decide) k;have m:Below X.B (w.alloc (.map #[] 0)) ((w.alloc (.map #[] 0)).setCell ⟨X.cx,7,none⟩ (.map (some w.heap.size))):=bR.setCell (p:=⟨X.cx,7,none⟩) (by have:=h.hB;have:=h.xR;show X.B<=X.cx;omega) _;refine⟨⟨?_,a.gr.js h.sep.left.left (λo g=>by rw[a.gr.fW]at g;cases g;exact i _ _ jU.T _ (by decide) a.gr.fW) (λq o d g=>by
  obtain⟨cur,hc,_⟩:=a.gr.ey d;rw[hc]at g;cases g;exact i _ _ jU.V _ (by decide) hc) j,(a.own.setCell _ _).congr λf=> ?_,((eu.new w eT).setCell _ _).congr λn=> ?_,a.us.keep h.sep.left.right (λq cur d=>i _ _ 177 _ (by decide) d) j,
  a.md.below m lR,a.ty.below m lR,a.kc.js h.sep.right j,h.sep,h.hB,h.xR,h.xe,v.2.2,?_,λq d=>by simpa [World.setCell] using Nat.lt_succ_of_lt (h.uq q d)⟩,?_⟩
 ·show((w.alloc (.map #[] 0)).setCell ⟨X.cx,7,none⟩ (.map (some w.heap.size))).heap[X.cx]? =_;simp only[World.setCell,Array.getElem?_modify,if_true,a.fW,Option.map_some]
  rfl
 ·by_cases k:0<=f
  ·simp only[aq k,u (-1-f) (by omega)]
  ·simp only[ah k]
 ·by_cases k:0<=n
  ·simp only[aq k,s n k];rfl
  ·simp only[ah k]
 ·have:X.ob<w.heap.size:=h.own.lt;show X.ob≠w.heap.size;omega
 ·exact(dm.kp X l).trans ((iC.refl _).setCell (p:=⟨X.cx,7,none⟩) (.inl rfl) _)
theorem eu.aa9{mb:Nat}{f:Int->Option Value}(h:eu eT w mb f)(a:f k=some v):∀(d:Nat) (os:Array Obj),(Instr.lookup 120 (.map (some mb)) (.int .i64 k) false).run Tryz.prog (grow (redrawn w d) os)=.ok v (grow (redrawn w d) os):=λd os=>
 (lp (T:=120) (et:=3) (P:=Tryz.prog) Tryz.underlying120 gU (h.below (below_regrown w d os) h.lt) (k:=k) a false).trans rfl
theorem iA.eb{X:CX}(h:iA X S)(q:Nat):iA (X.vH q) S:=⟨h.ok,h.Xf,h.own⟩
theorem Ds.eb{X:CX}(h:Ds X)(q:Nat):Ds (X.vH q):=⟨h.mod,h.con,h.sm,h.len⟩
theorem jb.eb{X:CX}{F:Fo}(h:jb X F)(q:Nat):jb (X.vH q) F:=⟨h.nodes,h.fns,h.sm,h.low⟩
def aa_(X:CX)(Z:Nat->Prop)(w:World)(a:Nat)(r:Option (Ck×Unit))(e:Ending)(w':World):Prop:=X.Kp w w'/\match r with
 |none=>e=.panicked [{ v:=m9,recovered:=false}]
 |some (S2,_)=>e=.returned (.tuple #[])/\∃q,w.heap.size<=q/\dm (X.vH q) Z w' S2 a
def CX.body(X:CX)(E:En)(r:oN)(c:Nat)(S:Ck):Option (Ck×Unit):=Ku (X.ks r.bT) (X.one r.rhs) true ((look E (-1-r.fn)).getD 0) c { S with env:=E}
abbrev Tb:Oper:=⟨some 36,.move (.tmp 0),147,dT,#[],none⟩
abbrev Tc:Oper:=⟨some 37,.nilCheck (.tmp 36),0,dT,#[aj 0],none⟩
abbrev Td:Oper:=⟨some 38,.fieldAddr 152 (.tmp 37) 0,0,dT,#[aj 1],none⟩
abbrev Te:Oper:=⟨some 39,.load 107 (.tmp 38),107,dT,#[aj 2],none⟩
abbrev Tf:Oper:=⟨some 40,.move (.tmp 4),3,dT,#[],none⟩
abbrev Tg:Oper:=⟨some 41,.move (.tmp 0),147,dT,#[],none⟩
abbrev Th:Oper:=⟨some 42,.nilCheck (.tmp 41),0,dT,#[aj 5],none⟩
abbrev Ti:Oper:=⟨some 43,.fieldAddr 152 (.tmp 42) 0,0,dT,#[aj 6],none⟩
abbrev Tj:Oper:=⟨some 44,.load 107 (.tmp 43),107,dT,#[aj 7],none⟩
abbrev Tk:Oper:=⟨some 45,.move (.tmp 7),3,dT,#[],none⟩
abbrev Pd:Oper:=⟨some 46,.move (.tmp 8),3,dT,#[],none⟩
abbrev Pe:Oper:=⟨some 47,.buildSlice 74 2 #[(0,.tmp 45),(1,.tmp 46)],74,dT,#[aj 9,aj 10],none⟩
abbrev Pf:Oper:=⟨some 48,.call ⟨.value (.func 112),#[.tmp 44,.const (.int .i64 2),.const (.int .i64 0),.tmp 47],#[107,3,3,74]⟩,3,dT,#[aj 8,aj 11],none⟩
abbrev Ph:Oper:=⟨some 49,.call ⟨.value (.func 76),#[.tmp 39,.tmp 40,.tmp 48],#[107,3,3]⟩,0,dT,#[aj 3,aj 4,aj 12,ao 12],none⟩
def Fq:Array Oper:= #[Tb,Tc,Td,Te,Tf,Tg,Th,Ti,Tj,Tk,Pd,Pe,Pf,Ph]
theorem Q9{X:CX}(hX:Ds X){r:oN}(hp:jb X r.bT)(hr:jb X r.rhs.one){E:En}{rv:Value}(h:dm X Z w S c)(hE:∀y,0<=y->look E y=none)(As:∀y,y<0->look S.env y=look E y)
 (L:iA X { S with env:=E}) (N:X.C.own r.fn=true) (o:Room S c (r.bT.size+r.rhs.size)) (hv:I1 w X.B rv r):
 Calls Tryz.prog 114 #[.pointer (some ⟨X.cx,0,none⟩),rv] w (aa_ X Z w (c+(r.bT.size+r.rhs.size)) (X.body E r c S)):=by
 obtain⟨pv,kv,rfl,f,t⟩:=hv;obtain⟨C,D,rfl⟩:=f.slice;obtain⟨ka,kc,rfl⟩:=t.slice;have qz:=f.small;have fK:=t.small;obtain⟨O,m,hm⟩:=L.ok.own r.fn N;have P:=L.ok.low.env _ _ hm;obtain⟨s,g⟩:=qS w (.cells #[.int .i64 r.fn,.slice C r.bT.len D,.int .i64 r.rhs.a,.int .i64 r.rhs.n,.slice ka r.rhs.k.len kc,.int .i64 r.vars] 139);obtain⟨r0,gv,ps,uv,up,j⟩:=h;have J:=j.below s;obtain⟨w1,z⟩:=xE (w.alloc (.cells #[.int .i64 r.fn,.slice C r.bT.len D,.int .i64 r.rhs.a,.int .i64 r.rhs.n,.slice ka r.rhs.k.len kc,.int .i64 r.vars] 139));rw[<-z]at s g J;have Q:X.B<=w.heap.size:=ai j.hB j.lt.2.2;obtain⟨R,T⟩:=J.ae2 hE As;have A:=λw' (M:X.Kp w w')=>j.low M j.hB;have HL:Hd (∀w',X.Kp w w'->dr w' X.B (.slice C r.bT.len D) r.bT/\dr w' X.B (.slice ka r.rhs.k.len kc) r.rhs.k):=hI λw' M=>⟨f.below (A w' M) lR,t.below (A w' M) lR⟩;have B:(w1.alloc (.map #[] 0)).frozen? ⟨X.cx,7,none⟩=false:=(J.below (Below.cA _ (.map #[] 0))).at.fz 7;have G:(w1.alloc (.map #[] 0)).cell? ⟨X.cx,7,none⟩=some (.map (some X.eb)):=(J.below (Below.cA _ (.map #[] 0))).at.c7;have x:X.cx<w1.heap.size:=J.lt.1;have U:((w1.alloc (.map #[] 0)).setCell ⟨X.cx,7,none⟩ (.map (some w1.heap.size))).heap[w.heap.size]? =some (.cells #[.int .i64 r.fn,.slice C r.bT.len D,.int .i64 r.rhs.a,.int .i64 r.rhs.n,.slice ka r.rhs.k.len kc,.int .i64 r.vars] 139 (0,0)):=
  (au _ _ _ _ (show w.heap.size≠X.cx by have:=j.lt.1;omega)).trans (cY (Below.cA _ _) g)
 have H:=hI R;have l:=hI ((dm.kp X s).trans T);have I:=hI U;have Co:=hI Q;have F:Hd (w.heap.size<=w1.heap.size):=hI s.size;obtain⟨HX,W,HRT,HO,QY,HM,HML,VC⟩:=h_8 (hX.eb w1.heap.size) (hp.eb w1.heap.size) (hr.eb w1.heap.size) (L.eb w1.heap.size) o hm P O;generalize ef:X.body E r c S=res;have ix:Hd (eG (nC ((X.vH w1.heap.size).ks r.bT) m c { S with env:=E}) (λd out=>eG ((X.vH w1.heap.size).one r.rhs (c+r.bT.size) d) λS2 n=>wN S2 n out)=res):=hI (by
  rw[<-ef];unfold CX.body Ku;rw[hm,show((X.ks r.bT).map (·.1)).sum=r.bT.size from qd true er X.C r.bT]
  rfl)
 have hsw:=World.setCell_alloc_past (w:=w1) (.map #[] 0) X.cx 7 (.map (some w1.heap.size)) x;rw[hsw]at H l I;clear hE As L N o f t s g j J Q R T A U hX hp hr hm P O ef;have CT:= @run_makeMap Tryz.prog
 go_enter Tryz.func114,Tryz.ntmps114
 go_upto_region 1 with fail
 rw[<-z];clear z
 go_upto_region 2 with fail
 refine eR (λY=>cU (X.vH w1.heap.size) Z Y { S with env:=E} c r0 gv ps uv up/\X.Kp w Y/\Y.heap[w.heap.size]? =some (.cells #[.int .i64 r.fn,.slice C r.bT.len D,.int .i64 r.rhs.a,.int .i64 r.rhs.n,.slice ka r.rhs.k.len kc,.int .i64 r.vars] 139 (0,0))) ⟨H.o,l.o,I.o⟩ ?_;clear B G x H l I CT;rintro w2 ⟨f,L,t⟩;have A:=f.own.aa9 (k:=r.fn) (v:=nV m) (by rw[aq VC.o,HM.o];rfl);unfold nV at A;have c6:w2.cell? ⟨X.cx,6,none⟩=some (.map (some (X.vH w1.heap.size).ob)):=f.at.c6;have J:=cZ t;have N:=af c6;have zr:=af J;obtain⟨s,z,O⟩:=h_3 f.at L t;clear f L t;refine aM (by kernel_rfl) (by kernel_rfl) ?_
 repeat go_big_quiet_step (fail)
 refine wpQuiet_nil ?_;intro w3 L;have H3:=hI (s.o.below L);have G:=hI (z.o.below L);have f:=bQ O.o L zr;have aiw:=hI f;have g:=eY f;have j:=af g;clear L A c6 J N zr f s z O;have G_:Hd (r.bT.len<=900000000):=hI (by have:=r.bT.nE;have:=QY.o.2.2;omega);have al3:=G_.o;go_wp2;clear g j;have HL2:Hd (∀w',(X.vH w1.heap.size).Kp w3 w'->dr w' X.B (.slice C r.bT.len D) r.bT/\dr w' X.B (.slice ka r.rhs.k.len kc) r.rhs.k):=hI λw' M=>HL.o w' (CX.Kp.eb M G.o F.o);have fT:Hd (X.B<=w3.heap.size):=hI (ai Co.o G.o.size)
 go_loopw [4,24] (λov i wr=>∃(k:Nat) (d:Ck) (c1 f1:Nat),k<=r.bT.len/\i=.int .i64 k/\ov=.int .i64 (f1:Nat)/\dm (X.vH w1.heap.size) Z wr d c1/\(X.vH w1.heap.size).Kp w3 wr/\iA (X.vH w1.heap.size) d/\f1<d.g.length/\Room d c1 ((r.bT.drop k).size+r.rhs.size)/\c1+(r.bT.drop k).size=c+r.bT.size/\
  eG (nC ((X.vH w1.heap.size).ks (r.bT.drop k)) f1 c1 d) (λd out=>eG ((X.vH w1.heap.size).one r.rhs (c+r.bT.size) d) λS2 n=>wN S2 n out)=res/\
  wr.heap[w.heap.size]? =some (.cells #[.int .i64 r.fn,.slice C r.bT.len D,.int .i64 r.rhs.a,.int .i64 r.rhs.n,.slice ka r.rhs.k.len kc,.int .i64 r.vars] 139 (0,0))) (λ_ i _=>r.bT.len-(intOf i).toNat)
 case atStart=>exact⟨0,_,c,m,aw _,rfl,rfl,H3.o,iC.refl _,HO.o,HML.o,by rw[Fo.drop_zero];exact QY.o,by rw[Fo.drop_zero],by rw[Fo.drop_zero];exact ix.o,aiw.o⟩
 case round=>
  obtain⟨k,d,c1,f1,iS,rfl,rfl,l8,s,O,Ez,o,P,Q,t⟩:=hrel;by_cases R:k<r.bT.len
  ·have L:=(HL2.o wr s).1;obtain⟨b,off,cap,p,pc2,ui,fF,f0,ff1,f2,A⟩:=dC L bR R;cases ui;have zb:b<wr.heap.size:=af f0;have J:=Below.cA wr (.cells #[.int .i64 (r.bT.at k).a,.int .i64 (r.bT.at k).n,.slice p (r.bT.at k).k.len pc2] 54);have j:=Fo.Ar R;rw[j]at o P;have l:1<=(r.bT.at k).size:=by unfold Nd.size;omega
   have f:=Dw HX.o _ (r.bT.at k) lR (W.o.at R) Z d c1 (.agg #[.int .i64 (r.bT.at k).a,.int .i64 (r.bT.at k).n,.slice p (r.bT.at k).k.len pc2]) _ (l8.below J) O (o.less (by omega)) ⟨_,rfl,A.below J (by have:=s.size;have:=fT.o;show X.B<=_;omega)⟩;have HN:=hI (λS2 a e=>vF HX.o (W.o.at R) (S:=d) (S':=S2) (c:=c1) (m:=a) O e);have Nn:=hI (s.below J);rw[Ik (X.vH w1.heap.size) R]at Q;obtain⟨g,x,Xi,dL,Wp,Qp⟩:=h_6 Q (show Room d c1 ((r.bT.at k).size+((r.bT.drop (k+1)).size+r.rhs.size))by rw[<-bN];exact o) P R Ez l;have fK:=G_.o;have om:(k:Int)<(r.bT.len:Int):=by omega
   clear Q L A l8 s O o P J j Ez l t;cases he:(X.vH w1.heap.size).one (r.bT.at k) c1 d with
   |none=>
    rw[he]at f g;obtain rfl:none=res:=g.o;have z:=hI f;clear f he
    go_wp2_with fail
    refine z.o.mono ?_;rintro e w4 ⟨j,rfl⟩;have B:=hI (CX.Kp.eb (Nn.o.trans j) G.o F.o);clear j;go_wp2;exact⟨rfl,B.o,rfl⟩
   |some q=>
    obtain⟨S2,a⟩:=q;rw[he]at f g;obtain⟨n1,n2,n3,T⟩:=HN.o S2 a he;obtain⟨z,jN,lG,Xj⟩:=h_4 f n1 n2 T;have O9:Hd (f1<S2.g.length):=hI (aC Wp.o n3.len);have Fp:Hd (S2.g.length<=999999990):=hI (by have:=T.len;have:=x.o.1;omega);have ui:=QZ S2 f1 a;have Pj:Hd (eG (eG (zz S2 f1 a) λS2 m=>nC ((X.vH w1.heap.size).ks (r.bT.drop (k+1))) m (c1+(r.bT.at k).size) S2) (λd out=>eG ((X.vH w1.heap.size).one r.rhs (c+r.bT.size) d) λS2 n=>wN S2 n out)=res):=g;obtain⟨EQ,heq⟩:=xE (wN (gQ (bP S2).1 3 0 [a,S2.g.length]).1 f1 (bP S2).1.g.length);have ye:=hI heq;have HAE:=hI ui;clear f he HN n1 n2 n3 T g heq ui
    go_wp2_with fail
    refine z.o.mono ?_;rintro e w4 ⟨j,rfl,U⟩;have B:=hI (Nn.o.trans j);have H4:=hI U;clear j U f0 ff1 f2 zb z;have c0:w4.cell? ⟨X.cx,0,none⟩=some (.pointer (some ⟨X.gx,0,none⟩)):=H4.o.c0;have N:=af c0;have HC4:=hI (r7 H4.o (by have:=Fp.o;omega))
    go_wp2_with fail
    refine HC4.o.mono ?_;rintro e w5 ⟨L,rfl,J⟩;clear c0 N;have c0:w5.cell? ⟨X.cx,0,none⟩=some (.pointer (some ⟨X.gx,0,none⟩)):=J.c0;have N:=af c0;have Hb:=hI (B.o.trans L);have H5:=hI J;clear L J;go_wp2;refine ff (S:=λV=>V.cell? ⟨X.cx,0,none⟩=some (.pointer (some ⟨X.gx,0,none⟩))) 13 (by kernel_rfl) (by decide) (c0) (λhHeld=> ?_)
    change mI _ _ Fq _ _ _ _ _ _ _ _
    refine oD (λZ=>Below w5.heap.size w5 Z) (Below.ia bR) hHeld ?_;clear hHeld;rintro V L hHeld;refine qH 0 ⟨some 36,.move (.tmp 0),147,dT,#[],none⟩ hHeld ?_;refine qH 1 ⟨some 37,.nilCheck (.tmp 36),0,dT,#[aj 0],none⟩ hHeld ?_;refine qH 2 ⟨some 38,.fieldAddr 152 (.tmp 37) 0,0,dT,#[aj 1],none⟩ hHeld ?_;refine qH 3 ⟨some 39,.load 107 (.tmp 38),107,dT,#[aj 2],none⟩ hHeld ?_;refine qH 4 ⟨some 40,.move (.tmp 4),3,dT,#[],none⟩ hHeld ?_;refine qH 5 ⟨some 41,.move (.tmp 0),147,dT,#[],none⟩ hHeld ?_;refine qH 6 ⟨some 42,.nilCheck (.tmp 41),0,dT,#[aj 5],none⟩ hHeld ?_;refine qH 7 ⟨some 43,.fieldAddr 152 (.tmp 42) 0,0,dT,#[aj 6],none⟩ hHeld ?_;refine qH 8 ⟨some 44,.load 107 (.tmp 43),107,dT,#[aj 7],none⟩ hHeld ?_;refine qH 9 ⟨some 45,.move (.tmp 7),3,dT,#[],none⟩ hHeld ?_;refine qH 10 ⟨some 46,.move (.tmp 8),3,dT,#[],none⟩ hHeld ?_;have H:=Below.cA V (.cells #[.int .i64 (a:Nat),.int .i64 (S2.g.length:Nat)] 3);have l:=ag L H lR;have A:=H5.o.below l;obtain⟨HCP,CV,HA⟩:=h_3 (Fh A (by rw[iN];have:=Fp.o;omega) 3 2 0 rfl (Fj V a S2.g.length) ((H5.o.below L).OR (w':=V) lR)) (Hb.o.below l) A;clear H l A L;refine qO 11 ⟨some 47,.buildSlice 74 2 #[(0,.tmp 45),(1,.tmp 46)],74,dT,#[aj 9,aj 10],none⟩ λK J=> ?_;go_simp;refine qK J (HA.o.c0) λhHeld=> ?_;clear J K;refine qO 12 ⟨some 48,.call ⟨.value (.func 112),#[.tmp 44,.const (.int .i64 2),.const (.int .i64 0),.tmp 47],#[107,3,3,74]⟩,3,dT,#[aj 8,aj 11],none⟩ λK J=> ?_;go_simp;refine HCP.o.mono ?_;rintro e wp ⟨s,rfl,hp⟩;have xD:=hI (CV.o.trans s);have W:=hI hp;clear s hp hHeld;refine qK J (W.o.c0) λhHeld=> ?_;clear J K;refine jQ (by kernel_rfl) ?_
    change wpList _ Fq _ [⟨some 49,.call ⟨.value (.func 76),#[.tmp 39,.tmp 40,.tmp 48],#[107,3,3]⟩,0,dT,#[aj 3,aj 4,aj 12,ao 12],none⟩] _ _
    clear hHeld;have H:=Ap W.o ((jN.o).free.node (.inr (.inl rfl)) 0 (Ih S2 lG.o)) (by rw[lU,iN];have:=Fp.o;omega) (a:=f1) (b:=(bP S2).1.g.length) (by rw[lU,iN];have:=O9.o;omega) (by rw[lU];omega);clear c0 N;rw[<-ye.o]at H;have A:=hI H;clear H
    go_wp2_with fail
    refine A.o.mono ?_;cases EQ with
    |none=>
     have L:Hd (none=res):=hI (by have:=Pj.o;rw[HAE.o,<-ye.o]at this;exact this);rintro e w6 ⟨l,rfl⟩;have I:=hI (CX.Kp.eb (xD.o.trans l) G.o F.o);clear l;obtain rfl:none=res:=L.o;go_wp2;exact⟨rfl,I.o,rfl⟩
    |some q=>
     obtain⟨S3,u⟩:=q;have J:zz S2 f1 a=some (S3,S2.g.length):=by rw[HAE.o,<-ye.o];rfl
     have HRN:Hd (eG (nC ((X.vH w1.heap.size).ks (r.bT.drop (k+1))) S2.g.length (c1+(r.bT.at k).size) S3) (λd out=>eG ((X.vH w1.heap.size).one r.rhs (c+r.bT.size) d) λS2 n=>wN S2 n out)=res):=hI (by have:=Pj.o;rw[J]at this;exact this);have T9:=hI (Mj jN.o O9.o lG.o J);clear J;rintro e w6 ⟨l,rfl,h6⟩;have L:=xD.o.trans l;obtain⟨I,H6,akG⟩:=h_3 L h6 (H3.o.stays L aiw.o (by decide) (by decide) (by unfold Ic;decide));clear l h6 L;go_wp2
     go_roundw
     case rel=>exact⟨k+1,S3,c1+(r.bT.at k).size,S2.g.length,dL.o,by go_num,rfl,H6.o,I.o,T9.o.1,T9.o.2.1,x.o.app Xj.o T9.o.2.2.1 Qp.o,by have:=Xi.o;omega,HRN.o,akG.o⟩
     case measure=>have:=dL.o;simp[intOf];omega
  ·obtain rfl:k=r.bT.len:=by omega
   have hd:r.bT.drop r.bT.len=.nil:=Fo.ie lR;rw[hd]at Q P o;have OU:c1=c+r.bT.size:=P;have J:Room d c1 r.rhs.size:=o.less (by show r.rhs.size<=0+_;omega);have L:=fu t;have r3c:=xk t;have r4c:=Za t;have zr:=af L;have f:=Dw HX.o _ r.rhs lR HRT.o Z d c1 (.agg #[.int .i64 r.rhs.a,.int .i64 r.rhs.n,.slice ka r.rhs.k.len kc]) _ l8 O J ⟨_,rfl,(HL2.o wr s).2⟩;have HN:=hI (λS2 a e=>vF HX.o HRT.o (S:=d) (S':=S2) (c:=c1) (m:=a) O e);have g:Hd (eG ((X.vH w1.heap.size).one r.rhs c1 d) (λS2 n=>wN S2 n f1)=res):=hI (by rw[OU];exact Q);obtain⟨xD,x,Wp,WU⟩:=h_4 s J Ez OU;clear Q P o OU J l8 s O Ez hd t;cases he:(X.vH w1.heap.size).one r.rhs c1 d with
   |none=>
    rw[he]at f g;obtain rfl:none=res:=g.o;have z:=hI f;clear f he
    go_wp2_with fail
    refine z.o.mono ?_;rintro e w4 ⟨j,rfl⟩;have B:=hI (CX.Kp.eb (xD.o.trans j) G.o F.o);clear j;go_wp2;exact⟨rfl,B.o,rfl⟩
   |some q=>
    obtain⟨S2,a⟩:=q;rw[he]at f g;obtain⟨n1,n2,n3,T⟩:=HN.o S2 a he;obtain⟨z,jN,lG⟩:=h_3 f n1 n2;have O9:Hd (f1<S2.g.length):=hI (aC Wp.o n3.len);have Fp:Hd (S2.g.length<=1000000000):=hI (by have:=T.len;have:=x.o.1;omega);clear f he HN n1 n2 n3 T
    go_wp2_with fail
    refine z.o.mono ?_;rintro e w4 ⟨j,rfl,U⟩;have c0:w4.cell? ⟨X.cx,0,none⟩=some (.pointer (some ⟨X.gx,0,none⟩)):=U.c0;have N:=af c0;have B:=hI (xD.o.trans j);have H4:=hI U;clear j U L r3c r4c zr z;have H:=Ap H4.o jN.o Fp.o lG.o O9.o;have Pj:Hd (wN S2 a f1=res):=g;clear g;rw[Pj.o]at H;have A:=hI H;clear H;cases res with
    |none=>
     go_wp2_with fail
     refine A.o.mono ?_;rintro e w6 ⟨l,rfl⟩;have I:=hI (CX.Kp.eb (B.o.trans l) G.o F.o);clear l;go_wp2;exact⟨rfl,I.o,rfl⟩
    |some q=>
     obtain⟨S3,u⟩:=q
     go_wp2_with fail
     refine A.o.mono ?_;rintro e w6 ⟨l,rfl,h6⟩;have I:=hI (CX.Kp.eb (B.o.trans l) G.o F.o);have H6:=hI h6;clear l h6;go_wp2
     go_end0
     exact⟨I.o,rfl,w1.heap.size,F.o,by rw[<-bN,<-WU.o];exact H6.o⟩
structure C0 (w:World) (gx ob eb cx:Nat) (W:World) (dv cv fv rv tv kv:Value) (xs:List Nat):Prop where
 low:Below w.heap.size w W
 box:W.heap[w.heap.size]? =some (.cells #[dv,cv,fv,rv] 50 (0,0))
 gr:W.heap[gx]? =some (.cells #[.slice none 0 0] 110 (0,0))
 own:W.heap[ob]? =some (.map #[] 0)
 env:W.heap[eb]? =some (.map #[] 0)
 chk:W.heap[cx]? =some (.cells #[.pointer (some ⟨gx,0,none⟩),dv,cv,fv,rv,tv,.map (some ob),.map (some eb),kv,.int .i64 0,.slice none 0 0] 152 (0,0))
 row:W.ownsRow w.heap.size 3 1 kv xs.length (cE (cX xs))
 eC:w.heap.size<gx/\w.heap.size<ob/\w.heap.size<eb/\w.heap.size<cx/\gx≠cx/\ob≠cx/\eb≠cx/\ob≠eb
theorem C0.below{W':World}{gx ob eb cx:Nat}{dv cv fv rv tv kv:Value}{xs:List Nat}(h:C0 w gx ob eb cx W dv cv fv rv tv kv xs)(a:Below W.heap.size W W'):C0 w gx ob eb cx W' dv cv fv rv tv kv xs:=by
 have l:∀{q:Nat} {o:Obj},W.heap[q]? =some o->W'.heap[q]? =some o:=λ{q o} b=>cY a b;exact⟨ag h.low a lR,l h.box,l h.gr,l h.own,l h.env,l h.chk,gC h.row (CK.below a),h.eC⟩
theorem C0.push{W':World}{gx ob eb cx:Nat}{dv cv fv rv tv kv c:Value}{xs:List Nat}{x:Nat}(h:C0 w gx ob eb cx W dv cv fv rv tv kv xs)(f:W'.ownsRow w.heap.size 3 1 c (xs.length+1) (cE (cX xs)++[.int .i64 (x:Nat)]))(d:W.grownBy W' kv.ownBlock):
 C0 w gx ob eb cx (W'.setCell ⟨cx,8,none⟩ c) dv cv fv rv tv c (xs++[x]):=by
 obtain⟨i,j,k,m,n,r,n7,n8⟩:=h.eC;have hint:∀q,kv.ownBlock=some q->(∃cur,W.heap[q]? =some (.cells cur 3 (0,0)))/\w.heap.size<=q:=λq e=>by
  rcases h.row.2 with⟨rfl,_⟩|⟨g',cap,cur,rfl,a,b,_⟩
  ·cases e
  ·cases e;exact⟨⟨cur,b⟩,a⟩
 have l:∀{q:Nat} {o:Obj},(∀cur,o≠.cells cur 3 (0,0))->W.heap[q]? =some o->W'.heap[q]? =some o:=λ{q o} g a=>(d.block q (gE a).1 (λe=>by
  obtain⟨⟨cur,hc⟩,_⟩:=hint q e.symm;rw[a]at hc;exact g cur (Option.some.inj hc))).trans a
 have s:∀{q:Nat} {o:Obj},W'.heap[q]? =some o->q≠cx->(W'.setCell ⟨cx,8,none⟩ c).heap[q]? =some o:=λ{q o} a eC=>(au _ _ _ _ eC).trans a;have b:=l (λcur=>by simp) h.chk;refine⟨Below.setCell (p:=⟨cx,8,none⟩) (h.low.grown d h.low.size λq a=>(hint q a).2) (show w.heap.size<=cx by omega) _,s (l (λcur=>by simp) h.box) (by omega),s (l (λcur=>by simp) h.gr) (by omega),s (l (λcur=>by simp) h.own) (by omega),s (l (λcur=>by simp) h.env) (by omega),?_,?_,h.eC⟩
 ·simp only[World.setCell,Array.getElem?_modify,if_true,b,Option.map_some]
  rfl
 ·rw[kO,<-eZ,az,aY];exact mi f b (by decide)
theorem C0.at{gx ob eb cx:Nat}{dv cv fv rv tv kv:Value}{m:Md}{types:List Nd}(l:List Int)(h:C0 w gx ob eb cx W dv cv fv rv tv kv (kW m))(hm:jM w B (.agg #[dv,cv,fv,rv]) m)(d:dr w B tv (Fo.of types))(hB:B<=w.heap.size)(e:(kW m).length<=1000):
 dm ⟨w.heap.size,B,cx,gx,ob,eb,dv,cv,fv,rv,tv,kv,m,types,l⟩ (λ_=>False) W gX 0:=by
 obtain⟨g,j,k,n,r,s,n7,n8⟩:=h.eC;have o:lD (λ_=>False) ([]++[]++[kv]):=λ_ _ _ _ _ _ _ c=>c;have a:∀{b:Nat},W.heap[b]? =some (.map #[] 0)->eu eT W b (λ_=>none):=λ{b} p=>⟨[],⟨#[],0,p,by simp,by simp,by simp⟩,by simp,λ_=>rfl⟩;refine⟨none,.slice none 0 0,[],.slice none 0 0,[],⟨h.chk,⟨h.gr,rfl,aZ _ _ _ _,rfl,λi hi=>ay hi (ax _),bt g⟩,(a h.own).congr λf=> ?_,(a h.env).congr λf=> ?_,⟨rfl,aZ _ _ _ _,λi hi=>ay hi (ax _)⟩,hm.below (h.low) hB,d.below h.low hB,dw.pF h.row (ai e (by decide)),o,hB,bt n,bt j,bt k,n8,λq c=>c.elim⟩⟩
 ·split<;>rfl
 ·split<;>rfl
def vI(ds:List fV)(k:Nat):List Nat:=dH (ds.take k) 0
theorem xL:∀(l:List fV) (d:fV) (i:Nat),dH (l++[d]) i=dH l i++List.replicate d.cons.length (i+l.length)
 |[],d,i=>by simp[dH]
 |x::l,d,i=>by
  simp only[bJ,dH];rw[xL l d (i+1),aG,aD,show i+1+l.length=i+(l.length+1)by omega]
theorem tZ:∀(a b:List fV) (i:Nat),dH (a++b) i=dH a i++dH b (i+a.length)
 |[],b,i=>by simp[dH]
 |x::a,b,i=>by
  simp only[bJ,dH];rw[tZ a b (i+1),aG,aD,show i+1+a.length=i+(a.length+1)by omega]
theorem Mp(ds:List fV)(k:Nat):(vI ds k).length<=(dH ds 0).length:=by
 have h:=tZ (ds.take k) (ds.drop k) 0;rw[List.take_append_drop]at h;rw[h,az];exact gz _ _
theorem yK{ds:List fV}{k:Nat}(h:k<ds.length):vI ds (k+1)=vI ds k++List.replicate (b8 ds k).cons.length k:=by
 unfold vI;have e:ds.take (k+1)=ds.take k++[b8 ds k]:=by
  rw[List.take_add_one,ae h];unfold b8;rw[ae h];rfl
 rw[e,xL,List.length_take,a8,Nat.min_eq_left (by omega)]
theorem tw{m:Md}{types:List Nd}{G tv:Value}(l:List Int)(hm:jM w B G m)(u:dr w B tv (Fo.of types))(hB:B<=w.heap.size)(H:(kW m).length<=1000):
 Calls Tryz.prog 109 #[G,tv] w λe w'=>∃X:CX,e=.returned (.pointer (some ⟨X.cx,0,none⟩))/\X.base=w.heap.size/\X.B=B/\X.m=m/\X.types=types/\X.l=l/\dm X (λ_=>False) w' gX 0/\Below w.heap.size w w':=by
 have P:=hI hm;obtain⟨dv,cv,fv,rv,rfl,a,hc,c,d⟩:=hm;obtain⟨I,dc,rfl⟩:=a.slice;obtain⟨g,cc,rfl⟩:=hc.slice;obtain⟨n,o,rfl⟩:=c.slice;obtain⟨r,rc,rfl⟩:=d.slice;obtain⟨s,t,rfl⟩:=u.slice;have RA:=a.small;obtain⟨Q,R,J,v⟩:=h_4 a u hB H;clear a hc c d u hB H;have f:= @run_makeMap Tryz.prog
 go_enter Tryz.func109,Tryz.ntmps109
 go_upto_region 2 with fail
 refine eR (λY=>C0 w (w.heap.size+1) (w.heap.size+1+1) (w.heap.size+1+1+1) (w.heap.size+1+1+1+1) Y (.slice I m.bH.length dc) (.slice g m.prog.sig.cons.length cc) (.slice n m.prog.sig.bj.length o) (.slice r m.prog.rules.length rc) (.slice s (Fo.of types).len t) (.slice none 0 0) []) ?_ ?_
 ·exact⟨Below.alloc (Below.alloc (Below.alloc (Below.jE _ _ _) (by simp;omega) _) (by simp;omega) _) (by simp;omega) _,fH (fH (fH (cH _ _ _).1)),fH (fH (fH (cH _ _ _).2)),fH (fH (sG (by simp))),fH (sG (by simp)),sG (by simp),aZ _ _ _ _,by omega⟩
 clear f;generalize w.heap.size+1+1+1+1=cx;generalize w.heap.size+1+1+1=eb;generalize w.heap.size+1+1=ob;generalize w.heap.size+1=gx;rintro Y a;have b0:=cZ a.box;have d:=af b0;have S:=hI a;clear a;go_wp2;clear b0 d
 go_loopw [19] (λi wr=>∃(k:Nat) (kv:Value),k<=m.bH.length/\i=.int .i64 k/\C0 w gx ob eb cx wr (.slice I m.bH.length dc) (.slice g m.prog.sig.cons.length cc) (.slice n m.prog.sig.bj.length o) (.slice r m.prog.rules.length rc) (.slice s (Fo.of types).len t) kv (vI m.bH k)) (λi _=>m.bH.length-(intOf i).toNat)
 case atStart=>exact⟨0,.slice none 0 0,aw _,rfl,S.o⟩
 case round=>
  obtain⟨k,kv,hk,rfl,hm⟩:=hrel;obtain⟨K,T⟩:=xE wr;subst T;by_cases x:k<m.bH.length
  ·obtain⟨b,off,cap,p,M,U,fF,d0,d1,d2,_,_⟩:=iR Q.o (hm.low.mono J.o) x;cases U;have N:=af d0;have om:(k:Int)<(m.bH.length:Int):=by omega
   obtain⟨f,a⟩:=qS K (.cells #[.string (b8 m.bH k).name,.int .i64 (b8 m.bH k).params,.slice p (b8 m.bH k).cons.length M] 186);have c:=hI (hm.below f);have d:=hI a;have y:(b8 m.bH k).cons.length<=1000:=by
    have z:=yK x;have A:=Mp m.bH (k+1);rw[z,az,cM]at A;have:=v.o;unfold kW at this;omega
   have C:=hI y;have D:=hI x;clear hm f a y
   go_upto_region 5 with fail
   refine eR (λY=>C0 w gx ob eb cx Y (.slice (some ⟨b,off,none⟩) m.bH.length dc) (.slice g m.prog.sig.cons.length cc) (.slice n m.prog.sig.bj.length o) (.slice r m.prog.rules.length rc) (.slice s (Fo.of types).len t) kv (vI m.bH k)/\Y.heap[K.heap.size]? =some (.cells #[.string (b8 m.bH k).name,.int .i64 (b8 m.bH k).params,.slice p (b8 m.bH k).cons.length M] 186 (0,0))) ⟨c.o,d.o⟩ ?_;clear c d d0 d1 d2 N;rintro Y ⟨a,f⟩;have F:=fu f;have O:=af F;have E:=hI a;have y:=C.o;clear a f;go_wp2;clear F O
   go_loopw [27] (λi wr=>∃(j:Nat) (kv:Value),j<=(b8 m.bH k).cons.length/\i=.int .i64 j/\C0 w gx ob eb cx wr (.slice (some ⟨b,off,none⟩) m.bH.length dc) (.slice g m.prog.sig.cons.length cc) (.slice n m.prog.sig.bj.length o) (.slice r m.prog.rules.length rc) (.slice s (Fo.of types).len t) kv (vI m.bH k++List.replicate j k)) (λi _=>(b8 m.bH k).cons.length-(intOf i).toNat)
   case atStart=>exact⟨0,kv,aw _,rfl,by simpa using E.o⟩
   case round=>
    obtain⟨j,V,hj,rfl,c⟩:=hrel;obtain⟨W,Z,rfl⟩:=cr c.row;have hlen:(vI m.bH k++List.replicate j k).length<=1000:=by
     have z:=yK D.o;have A:=Mp m.bH (k+1);rw[z,az,cM]at A;have a:=v.o;unfold kW at a;rw[az,cM];omega
    by_cases mT:j<(b8 m.bH k).cons.length
    ·have c8:=cr8 c.chk;have zc:=af c8;have d:=Below.cA wr (.cells #[.int .i64 (k:Nat)] 3);obtain⟨a,JJ,N⟩:=h_3 (c.below d) (a_ wr (.cells #[.int .i64 (k:Nat)] 3)) hlen;clear c d hlen;generalize f:(vI m.bH k++List.replicate j k)=L at a N c8;have wQ:=hI f;clear f
     go_wp2_with (at_builtin;refine lM rfl Cp _ _ rfl rfl a.o.row (q:=wr.heap.size) (us:=[.int .i64 (k:Nat)]) rfl JJ.o rfl (one_one rfl) (by have:=N.o;omega) (by have:=a.o.low.size;omega) ?_;intro v' O f d _;obtain⟨vb,vd,rfl⟩:=cr f;have z:=hI (a.o.push f d);have A:=(d.block _ (gE a.o.chk).1 (λe=>lQ a.o.row a.o.chk (by decide) _ e.symm rfl)).trans a.o.chk;have F:O.cell? ⟨cx,8,none⟩=some (.slice W L.length Z):=(by rw[cell_of_row _ _ _ _ _ _ A];rfl);have f83:O.frozen? ⟨cx,8,none⟩=false:=(by simp[World.frozen?,A]);have z83:=af F;clear f d A c8 zc)
     go_roundw
     case rel=>exact⟨j+1,_,by omega,by go_num,by rw[List.replicate_succ',<-aG,wQ.o];exact z.o⟩
     case measure=>simp[intOf];omega
    ·obtain rfl:j=(b8 m.bH k).cons.length:=by omega
     rw[<-yK D.o]at c;have a:=hI c;have d:=D.o;clear c hlen;go_wp2
     go_roundw
     case rel=>exact⟨k+1,_,by omega,by go_num,a.o⟩
     case measure=>simp[intOf];omega
  ·obtain rfl:k=m.bH.length:=by omega
   have he:vI m.bH m.bH.length=kW m:=by unfold vI kW;rw[bE]
   rw[he]at hm;have a:=hI (hm.at l P.o R.o J.o v.o);have d:=hI hm.low;clear hm he;go_wp2;go_ret;exact⟨_,rfl,rfl,rfl,rfl,rfl,rfl,a.o,d.o⟩
end
end Go.Proofs.YtnicceekibancaaGreat
