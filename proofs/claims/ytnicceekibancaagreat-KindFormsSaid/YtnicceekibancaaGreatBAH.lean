/- Lemmas: ChQ ChR GrP ChS InfB Frm AccB TeT TeU Checks ChT ChU BitRows ChV ChW ChX ChY TyRow. -/
import Derived.Test.YtnicceekibancaaGreatBZ
import Derived.Test.YtnicceekibancaaGreatBAG
import Derived.Deep.Cut
import Derived.Test.YtnicceekibancaaGreatBAE
import Derived.Test.YtnicceekibancaaGreatBAF
import Derived.Test.YtnicceekibancaaGreatBAC
import Derived.Test.YtnicceekibancaaGreatBAD
import Derived.Laws.StructEq
set_option linter.all false
set_option maxRecDepth 100000
set_option maxHeartbeats 8000000
namespace Go.Proofs.YtnicceekibancaaGreat
variable{S:Ck}{W W' w w':World}{Z:Nat->Prop}{b c i j k n q:Nat}{f:List Nat}{l:List ByteArray}{m:Md}{p:Pg}{r:oN}{v:Int}
section
open Go Go.RowKit Go.Sort
attribute [local go_sem] aT cW df nV uV
theorem cU.XK{X:CX}{r:Option Nat}{gv:Value}{ps:List Value}{uv:Value}{up:List Value}(h:cU X Z w S c r gv ps uv up){n:Int}(l:0<=n)(m:Nat):
 ∃o,(Instr.mapUpdate 120 (.map (some X.ob)) (.int .i64 n) (.int .i64 (m:Nat))).run Tryz.prog w=.ok () (w.putObj X.ob o)/\cU X Z (w.putObj X.ob o) { S with env:=(-1-n,m)::S.env} c r gv ps uv up/\X.Kp w (w.putObj X.ob o):=by
 obtain⟨o,e,hm,_⟩:=run_set (T:=120) (et:=3) (P:=Tryz.prog) Tryz.underlying120 gU h.own n (nV m);obtain⟨v,p,x,s,z,A,n7,n8,B⟩:=h.ne;have g:∀(q:Nat) (o':Obj),w.heap[q]? =some o'->q≠X.ob->(w.putObj X.ob o).heap[q]? =some o':=λq o' a eC=>(aA eC).trans a;obtain⟨_,_,he⟩:=h.own.obj;have k:∀(q:Nat) (cur:Array Value) (t:TypeId) (f:Nat×Nat),w.heap[q]? =some (.cells cur t f)->(w.putObj X.ob o).heap[q]? =some (.cells cur t f):=λq cur t f d=>g _ _ d λe=>by rw[e,he]at d;cases d
 have j:tX Z w (w.putObj X.ob o):=λb cur f i _=>k _ _ _ _ i;have i:Below X.B w (w.putObj X.ob o):=dI bR (by have:=h.hB;have:=h.xe;omega) o;refine⟨o,e,⟨g _ _ h.fW p,h.gr.js h.sep.left.left (λo' a=>g _ _ a s) (λq o' d a=>g _ _ a λe=>n8 (by rw[d,e])) j,hm.congr λf=> ?_,(h.env.same λo' a=>g _ _ a (λe=>h.eC e.symm)).congr λy=> ?_,h.us.keep h.sep.left.right (λq cur d=>k _ _ _ _ d) j,h.md.below i lR,h.ty.below i lR,h.kc.js h.sep.right j,h.sep,h.hB,h.xR,h.xe,h.SW,h.eC,λq d=>by simpa using h.uq q d⟩,?_⟩
 ·rw[dn];by_cases i:f=n
  ·subst i;simp only[if_true,aq l];rfl
  ·have u:¬(-1-n= -1-f):=λe=>i (by omega);simp only[ah i,ah u]
 ·by_cases hy:0<=y
  ·have i:¬(-1-n=y):=by omega
   simp only[aq hy,dn,ah i]
  ·simp only[ah hy]
 ·exact⟨rfl,rfl,rfl,by simp,λq o' a i _=>g _ _ a λe=>i (.inr (.inr (.inl e)))⟩
theorem Fs:∀(k:Nat) (S:Ck) (n:Nat),(d_ k S n).1.g.length=S.g.length+2*k/\∀p:Int->Prop,p 0->p 3->jq p S.g->jq p (d_ k S n).1.g
 |0,S,n=>⟨rfl,λ_ _ _ h=>h⟩
 |k+1,S,n=>by
  obtain⟨a,d⟩:=Fs k (gQ (bP S).1 3 0 [(bP S).2,n]).1 (gQ (bP S).1 3 0 [(bP S).2,n]).2;rw[lU,iN]at a;refine⟨a.trans (by omega),λp b c h=>d p b c ?_⟩;exact jq.add (jq.add h b (aw _)) c (show 2<=1000 by decide)
theorem Ft(f:Int)(k:Nat)(l:List (Int×Nat))(S:Ck):tR true ((f,k)::l) S=tR true l { (d_ k (bP S).1 S.g.length).1 with env:=(-1-f,(d_ k (bP S).1 S.g.length).2)::S.env}:=by
 have e:(d_ k (bP S).1 S.g.length).1.env=S.env:=(mN k (bP S).1 S.g.length).2;rw[<-e];rfl
theorem Mq:∀(l:List (Int×Nat)) (S:Ck),(∀q∈l,0<=q.1/\q.2<=4)->∃S',tR true l S=some (S',())/\S'.g.length<=S.g.length+9*l.length/\S'.us=S.us/\(∀p:Int->Prop,p 0->p 3->jq p S.g->jq p S'.g)/\∀y,0<=y->look S'.env y=look S.env y
 |[],S,_=>⟨S,rfl,by simp,rfl,λ_ _ _ h=>h,λ_ _=>rfl⟩
 |(f,k)::l,S,h=>by
  obtain⟨c,d⟩:=h (f,k) (by simp);rw[Ft];obtain⟨g,a2⟩:=Fs k (bP S).1 S.g.length;obtain⟨S',e,i,j,m,n⟩:=Mq l { (d_ k (bP S).1 S.g.length).1 with env:=(-1-f,(d_ k (bP S).1 S.g.length).2)::S.env} λq o=>h q (by simp[o]);refine⟨S',e,ai i ?_,j.trans (mN _ _ _).1,λp a b r=>m p a b (a2 p a b (jq.add r a (aw _))),λy hy=>(n y hy).trans ?_⟩
  ·rw[iN]at g;show(d_ k (bP S).1 S.g.length).1.g.length+9*l.length<=_;have a:k<=4:=d;rw[aD];omega
  ·rw[dn,ah (by have:0<=f:=c;omega)]
theorem Fu(hm:iy m=true){l:List Int}(b:∀f∈l,0<=f/\f.toNat<m.prog.sig.bj.length):∀q∈l.map λf=>(f,mg m f),0<=q.1/\q.2<=4:=by
 intro q c;obtain⟨f,d,rfl⟩:=aN.1 c;obtain⟨g,i⟩:=b f d;refine⟨g,?_⟩;have hp:=(ec hm).2.1;unfold ez at hp;rw[ak,ak]at hp;have a:=hp.1.1;unfold fA at a;rw[ak]at a;have:=mS a.2 (m.prog.sig.cons.length+f.toNat) (by rw[az];omega);have e:bS (m.prog.sig.cons++m.prog.sig.bj) (m.prog.sig.cons.length+f.toNat)=bS m.prog.sig.bj f.toNat:=by
  exact an7
 rw[e]at this;show(bS m.prog.sig.bj f.toNat).args.toNat<=4;omega
def kF(s:Int):Prop:=s=0\/s=2\/s=3\/s=4
theorem abb{X:CX}(d:CC X.C X.m X.l)(hm:iy X.m=true)(l:∀f∈X.l,0<=f/\f.toNat<X.m.prog.sig.bj.length):∃S',tR true (X.l.map λf=>(f,mg X.m f)) gX=some (S',())/\iA X S'/\S'.g.length<=9*X.l.length/\S'.us=[]/\(∀y,0<=y->look S'.env y=none)/\jq kF S'.g:=by
 obtain⟨S',e,j,n,k,o⟩:=Mq _ gX (Fu hm l);have a:=DW true _ e;have p:=W_ _ rN (Ky d) (λq b=>rfl) e;refine⟨S',e,⟨⟨p.low,λf c=> ?_⟩,k wV (by unfold wV;omega) (by unfold wV;omega) (λi hi=>ay hi (ax _)),λf g c=> ?_⟩,?_,n,o,k kF (by unfold kF;omega) (by unfold kF;omega) (λi hi=>ay hi (ax _))⟩
 ·obtain⟨g,q,b,e⟩:=(Ny d f).1 c;exact⟨g,(a (-1-f)).2 (.inr ⟨q,b,by rw[e]⟩)⟩
 ·cases r:look S'.env (-1-f)with
  |none=>rfl
  |some m=>
   rcases(a (-1-f)).1 ⟨m,r⟩with⟨s,h'⟩|⟨q,b,e⟩
   ·cases h'
   ·have:X.C.own f=true:=(Ny d f).2 ⟨g,q,b,by omega⟩;rw[this]at c;cases c
 ·have:gX.g.length=0:=rfl;rw[this,aW,a8]at j;exact j
theorem Im{X:CX}(d:Ds X)(hp:jb X r.bT)(e:jb X r.rhs.one){E:En}{S2:Ck}{u:Unit}(g:iA X { S with env:=E})(k:X.C.own r.fn=true)(h:X.body E r c S=some (S2,u)):
 iA X { S2 with env:=E}/\nu { S with env:=E} S2 (1000*(r.bT.size+r.rhs.size))/\∀f,Room { S with env:=E} c (r.bT.size+r.rhs.size+f)->Room { S2 with env:=E} (c+(r.bT.size+r.rhs.size)) f:=by
 have b:nu { S with env:=E} S2 (1000*(r.bT.size+r.rhs.size)):=by
  unfold CX.body Ku at h;obtain⟨s,out,l,m⟩:=cI h;obtain⟨v,n,o,p⟩:=cI m;have i:=fun(F:Fo) (hF:jb X F)=>vE (P:=true) rX d.sm F (jA hF.nodes).2 hF.sm;have s1:=Am (i _ hp) l;rw[show yE (rM true er X.C r.bT)=r.bT.size from qd true er X.C r.bT]at s1;have j:=QV (P:=true) rX d.sm (a:=r.rhs.a) (n:=r.rhs.n) (i _ e.kids) e.sm.1 (jA e.nodes).2.1 _ _ _ _ o;rw[qd true er X.C r.rhs.k]at j;have q:=Ak p;have w:r.rhs.size=1+r.rhs.k.size:=rfl;exact(s1.trans j lR).trans q (by omega)
 have i:tQ [] (X.ks r.bT) (X.one r.rhs) true r.fn c { S with env:=E}=some ({ S2 with env:=E},u):=by
  unfold tQ;show C6 E (X.body E r c S)=_;rw[h];rfl
 have j:dY { S with env:=E} { S2 with env:=E}:=ac4 (hp.fo.ksL d.con) (CB.WY (t:=r.rhs) e.fo d.con) g.ok k i;refine⟨g.step j (⟨b.wV,b.len,b.us,λ_ _=>rfl⟩:nu { S with env:=E} { S2 with env:=E} _),b,λf hc=> ?_⟩;obtain⟨l,a2,a3⟩:=hc;have m:=b.len;have o:=b.us;exact⟨by show S2.g.length+_<=_;have:({ S with env:=E}:Ck).g.length=S.g.length:=rfl;omega,by show S2.us.length+_<=_;have:({ S with env:=E}:Ck).us.length=S.us.length:=rfl;omega,by omega⟩
def gq(X:CX)(i:Nat):List (Ru×Y8):=((X.m.prog.rules.drop i).filter λr=>X.l.contains r.fn).map (sE true X.C)
theorem Gt{X:CX}(hi:i<X.m.prog.rules.length)(h:X.l.contains (cQ X.m.prog.rules i).fn=false):gq X i=gq X (i+1):=by
 unfold gq;rw[bI hi,bp,ah];unfold cQ at h;rw[ae hi]at h;rw[show X.m.prog.rules[i]=(some X.m.prog.rules[i]).getD default from rfl,h];decide
theorem JK{X:CX}(hi:i<X.m.prog.rules.length)(h:X.l.contains (cQ X.m.prog.rules i).fn=true):gq X i=sE true X.C (cQ X.m.prog.rules i)::gq X (i+1):=by
 unfold gq;have e:cQ X.m.prog.rules i=X.m.prog.rules[i]:=by unfold cQ;rw[ae hi];rfl
 rw[e]at h |-;rw[bI hi,bp,aq h,bz]
theorem Cs(sc:List Int)(a:Bool)(r:Ru)(q:Y8)(l:List (Ru×Y8))(c:Nat)(S:Ck):mf sc a ((r,q)::l) c S=(match tQ sc q.ps q.rhs a r.f c S with
 |none=>none
 |some (b,_)=>mf sc a l (c+(q.ps.map λx:Nat×oM=>x.1).sum+(1+r.k.size)) b):=rfl
theorem yL{X:CX}(E:En)(r:oN)(c:Nat)(S:Ck):tQ [] (X.ks r.bT) (X.one r.rhs) true r.fn c { S with env:=E}=C6 E (X.body E r c S):=rfl
theorem Pk{X:CX}{E:En}{l:List (Ru×Y8)}{S0:Ck}(b:S0={ S with env:=E})(h:X.body E r c S=none):mf [] true (sE true X.C r::l) c S0=none:=by
 subst b;have a:=yL (X:=X) E r c S;rw[h]at a;unfold sE;rw[Cs,show tQ [] (IU true X.C r).ps (IU true X.C r).rhs true (adz r).f c { S with env:=E}=none from a]
theorem Pm{X:CX}{E:En}{l:List (Ru×Y8)}{S0 S2:Ck}{u:Unit}(b:S0={ S with env:=E})(h:X.body E r c S=some (S2,u)):mf [] true (sE true X.C r::l) c S0=mf [] true l (c+(r.bT.size+r.rhs.size)) { S2 with env:=E}:=by
 subst b;have a:=yL (X:=X) E r c S;rw[h]at a;unfold sE;rw[Cs,show tQ [] (IU true X.C r).ps (IU true X.C r).rhs true (adz r).f c { S with env:=E}=some ({ S2 with env:=E},u)from a];show mf [] true l (c+((IU true X.C r).ps.map λx:Nat×oM=>x.1).sum+(1+r.rhs.k.size)) { S2 with env:=E}=_;rw[show((IU true X.C r).ps.map λx:Nat×oM=>x.1).sum=r.bT.size from qd true er X.C r.bT,bN];rfl
def yM(X:CX):Prop:=∀r∈qQ X.m X.l,jb X r.bT/\jb X r.rhs.one
theorem yM.at{X:CX}(h:yM X)(hi:i<X.m.prog.rules.length)(hc:X.l.contains (cQ X.m.prog.rules i).fn=true):jb X (cQ X.m.prog.rules i).bT/\jb X (cQ X.m.prog.rules i).rhs.one:=by
 have e:cQ X.m.prog.rules i=X.m.prog.rules[i]:=by unfold cQ;rw[ae hi];rfl
 exact h _ (List.mem_filter.2 ⟨by rw[e];exact aR hi,hc⟩)
theorem Io(hm:iy m=true)(hi:i<m.prog.rules.length):(cQ m.prog.rules i).bT.size+(cQ m.prog.rules i).rhs.size<=200:=by
 have e:cQ m.prog.rules i=m.prog.rules[i]:=by unfold cQ;rw[ae hi];rfl
 have hp:=(ec hm).2.1;have a:=mW hp (cQ m.prog.rules i) (by rw[e];exact aR hi);have f:=pP a.rhs;have g:(cQ m.prog.rules i).bT.len<=4:=by
  have k:=a.len;unfold ez at hp;rw[ak,ak]at hp;have b:=hp.1.1;unfold fA at b;rw[ak]at b;have:=mS b.2 (m.prog.sig.cons.length+(cQ m.prog.rules i).fn.toNat) (by rw[az];have:=a.fn.2;omega);have d:bS (m.prog.sig.cons++m.prog.sig.bj) (m.prog.sig.cons.length+(cQ m.prog.rules i).fn.toNat)=bS m.prog.sig.bj (cQ m.prog.rules i).fn.toNat:=by
   exact an7
  rw[d]at this;omega
 have d:=qY (F:=(cQ m.prog.rules i).bT) (c:=40) λj b=>pP (a.bT _ (Fo.at_mem b)).1;omega
theorem Tl(hm:iy m=true):m.prog.rules.length<=16:=by
 have hp:=(ec hm).2.1;unfold ez at hp;rw[ak,ak]at hp;exact bu hp.1.2
theorem Fv(hm:iy m=true):m.prog.sig.bj.length<=8:=by
 have hp:=(ec hm).2.1;exact anq
structure tz (cx:Nat) (lv:Value) (lb cb:Nat) (w:World):Prop where
 l:w.heap[lb]? =some (.cells #[lv] 74 (0,0))
 c:w.heap[cb]? =some (.cells #[.pointer (some ⟨cx,0,none⟩)] 147 (0,0))
theorem tz.lc{cx:Nat}{lv:Value}{lb cb:Nat}(h:tz cx lv lb cb w):w.cell? ⟨lb,0,none⟩=some lv:=by rw[cell_of_row _ _ _ _ _ _ h.l];rfl
theorem tz.cc{cx:Nat}{lv:Value}{lb cb:Nat}(h:tz cx lv lb cb w):w.cell? ⟨cb,0,none⟩=some (.pointer (some ⟨cx,0,none⟩)):=by rw[cell_of_row _ _ _ _ _ _ h.c];rfl
theorem tz.below{cx:Nat}{lv:Value}{lb cb:Nat}(h:tz cx lv lb cb w)(a:Below w.heap.size w w'):tz cx lv lb cb w':=
 ⟨cY a h.l,cY a h.c⟩
theorem tz.keep{X:CX}{lv:Value}{lb cb:Nat}(h:tz X.cx lv lb cb w)(hc:dm X Z w S c)(a:X.Kp w w'):tz X.cx lv lb cb w':=
 ⟨hc.stays a h.l (by decide) (by decide) (by unfold Ic;decide),hc.stays a h.c (by decide) (by decide) (by unfold Ic;decide)⟩
theorem dm.c3{X:CX}(h:dm X Z w S c):w.cell? ⟨X.cx,3,none⟩=some X.fv:=h.cells.2.2.2.1
theorem dm.c4{X:CX}(h:dm X Z w S c):w.cell? ⟨X.cx,4,none⟩=some X.rv:=h.cells.2.2.2.2.1
theorem dm.ae7{X:CX}(h:dm X Z w S c):eB w X.B X.dv X.m.bH/\gD w X.B X.cv X.m.prog.sig.cons/\gD w X.B X.fv X.m.prog.sig.bj/\j4 w X.B X.rv X.m.prog.rules/\X.B<=X.base/\dr w X.B X.tv (Fo.of X.types):=by
 obtain⟨_,_,_,_,_,a⟩:=h;have d:=a.hB;have f:=a.ty;obtain⟨dv,cv,fv,rv,e,g,i,j,k⟩:=a.md;injection e with e;have b:=congrArg Array.toList e;simp only[List.cons.injEq,and_true]at b;obtain⟨l,m,n,o⟩:=b;rw[l,m,n,o];exact⟨g,i,j,k,d,f⟩
theorem CX.Kp.eb'{X:CX}{w1:World}(h:(X.vH q).Kp w1 w')(b:X.Kp w w1)(a:q=X.eb\/w.heap.size<=q):X.Kp w w':=by
 rcases a with rfl|a
 ·exact b.trans h
 ·exact h.eb b a
def ae8(X:CX)(w:World)(r:Option Ck)(e:Ending)(w':World):Prop:=X.Kp w w'/\match r with
 |none=>e=.panicked [{ v:=m9,recovered:=false}]
 |some S=>e=.returned (.tuple #[])/\∃(q c:Nat) (S':Ck),dm (X.vH q) (λ_=>False) w' S' c/\S'.g=S.g/\(∀y,y<0->look S'.env y=look S.env y)/\iA X S/\S.g.length<=900000000/\jq kF S.g
abbrev ae9:Oper:=⟨some 31,.load 147 (.tmp 1),147,ee,#[],none⟩
abbrev ae_:Oper:=⟨some 32,.nilCheck (.tmp 31),0,ee,#[aj 0],none⟩
abbrev afa:Oper:=⟨some 33,.fieldAddr 152 (.tmp 32) 0,0,ee,#[aj 1],none⟩
abbrev afb:Oper:=⟨some 34,.load 107 (.tmp 33),107,ee,#[aj 2],none⟩
abbrev afc:Oper:=⟨some 35,.load 147 (.tmp 1),147,ee,#[],none⟩
abbrev afd:Oper:=⟨some 36,.nilCheck (.tmp 35),0,ee,#[aj 4],none⟩
abbrev afe:Oper:=⟨some 37,.fieldAddr 152 (.tmp 36) 0,0,ee,#[aj 5],none⟩
abbrev aff:Oper:=⟨some 38,.load 107 (.tmp 37),107,ee,#[aj 6],none⟩
abbrev afg:Oper:=⟨some 39,.call ⟨.value (.func 71),#[.tmp 38],#[107]⟩,3,ee,#[aj 7],none⟩
abbrev afh:Oper:=⟨some 40,.move (.tmp 4),3,ee,#[],none⟩
abbrev abd:Oper:=⟨some 41,.buildSlice 74 2 #[(0,.tmp 39),(1,.tmp 40)],74,ee,#[aj 8,aj 9],none⟩
abbrev abe:Oper:=⟨some 42,.call ⟨.value (.func 112),#[.tmp 34,.const (.int .i64 2),.const (.int .i64 0),.tmp 41],#[107,3,3,74]⟩,3,ee,#[aj 3,aj 10,ao 8],none⟩
abbrev abf:Oper:=⟨some 4,.assign (.tmp 42),3,ee,#[aj 11,ao 11,al 0,al 1,al 2,al 3,al 4,al 5,al 6,al 7,al 8,al 9,al 10,al 11],none⟩
def Q_:Array Oper:= #[ae9,ae_,afa,afb,afc,afd,afe,aff,afg,afh,abd,abe,abf]
theorem Tm{X:CX}(hX:Ds X)(hg:CC X.C X.m X.l)(hr:yM X)(hl:∀f∈X.l,0<=f/\f.toNat<X.m.prog.sig.bj.length)(t_:X.l.length<=1000)(h:dm X (λ_=>False) w gX 0){lv:Value}{lb cb:Nat}(hv:Ints w X.B lv X.l)(hc:tz X.cx lv lb cb w):
 Calls Tryz.prog 218 #[.pointer (some ⟨lb,0,none⟩),.pointer (some ⟨cb,0,none⟩)] w (ae8 X w (od true X.m X.types X.l)):=by
 obtain⟨SO,M,B,Y,P,g,x⟩:=abb hg hX.mod hl;obtain⟨hd,I,Q,v,F,J⟩:=h.ae7;have m:∀f∈X.l,∃a:Nat,a<=4/\mg X.m f=a/\(bS X.m.prog.sig.bj f.toNat).args=(a:Int):=λf T=>by
  have:=Fu hX.mod hl (f,mg X.m f) (aN.2 ⟨f,T,rfl⟩);have hp:=(ec hX.mod).2.1;unfold ez at hp;rw[ak,ak]at hp;have L:=hp.1.1;unfold fA at L;rw[ak]at L;have O:=mS L.2 (X.m.prog.sig.cons.length+f.toNat) (by rw[az];have:=(hl f T).2;omega);have s:bS (X.m.prog.sig.cons++X.m.prog.sig.bj) (X.m.prog.sig.cons.length+f.toNat)=bS X.m.prog.sig.bj f.toNat:=by
   exact an7
  rw[s]at O;exact⟨mg X.m f,this.2,rfl,by unfold mg;omega⟩
 have G:od true X.m X.types X.l=(match mf [] true (gq X 0) 0 SO with|none=>none|some (S2,_)=>match eX S2.g with|none=>none|some _=>some S2):=by
  unfold od Nx;rw[M];rfl
 have ix:=hI G;clear G;generalize od true X.m X.types X.l=R at ix |-;obtain⟨la,lc,rfl⟩:=hv.slice;obtain⟨fa,fc,L⟩:=Q.slice;obtain⟨ra,rc,s⟩:=v.slice;have B1:Hd (∀w',X.Kp w w'->Ints w' X.B (.slice la X.l.length lc) X.l):=hI λw' hk=>hv.below (h.low hk F) lR;have Qh:Hd (∀w',X.Kp w w'->gD w' X.B X.fv X.m.prog.sig.bj):=hI λw' hk=>Q.below (h.low hk F) lR;have NJ:Hd (∀w',X.Kp w w'->j4 w' X.B X.rv X.m.prog.rules):=hI λw' hk=>v.below (h.low hk F) lR;have CI:Hd (X.B<=w.heap.size):=hI (ai F h.lt.2.2);obtain⟨HX,Zj,HL,JI,H,HC,HOW,QB,AN,HUS,akH,akI⟩:=h_12 hX hr hl t_ h hc M B Y P g x;have Gg:=hI m;have Ip:=hI s;have x0:=hc.lc;have A:=af x0;have al4:=t_;clear hX hg hr hl t_ h hc M B Y P g x m L s hv hd I Q v F J
 go_enter Tryz.func218,Tryz.ntmps218
 go_wp2;clear x0 A
 go_loopw [9] (λi wr=>∃(k:Nat) (G:Ck),k<=X.l.length/\i=.int .i64 k/\dm X (λ_=>False) wr G 0/\X.Kp w wr/\G.g.length<=9*k/\tR true ((X.l.drop k).map λf=>(f,mg X.m f)) G=some (SO,())/\tz X.cx (.slice la X.l.length lc) lb cb wr) (λi _=>X.l.length-(intOf i).toNat)
 case atStart=>exact⟨0,gX,aw _,rfl,H.o,iC.refl _,aw _,HOW.o,HC.o⟩
 case round=>
  obtain⟨k,G,iS,rfl,s,g,Tn,how,m⟩:=hrel;obtain⟨N,E8⟩:=xE wr;subst E8;by_cases C:k<X.l.length
  ·obtain⟨_,a',oh,he,_,_,B⟩:=B1.o N g;obtain⟨nb,no,NA,qM,I⟩:=B (by omega);cases he;subst NA;have d0:N.cell? ⟨nb,no+k,none⟩=some (.int .i64 (cN X.l k)):=I k (by omega);obtain⟨f,T⟩:=xE (cN X.l k);have L:f∈X.l:=by rw[T];unfold cN;rw[ae C];exact aR _
   have J:X.l.drop k=f::X.l.drop (k+1):=by rw[bI C,T];unfold cN;rw[ae C];rfl
   rw[<-T]at d0;obtain⟨Ka,Q⟩:=HL.o f L;obtain⟨a,M,ui,v⟩:=Gg.o f L;rw[J,bz,ui,Ft]at how;obtain⟨fN,rfl⟩:=Int.eq_ofNat_of_zero_le Ka;have F:((fN:Nat):Int).toNat=fN:=rfl;rw[F]at v Q;have Y:nb<N.heap.size:=by have:=g.size;have:=CI.o;omega
   have om:(k:Int)<(X.l.length:Int):=by omega
   have x1:=m.cc;have A:=af x1;have c0:=s.c0;have D:=af c0;obtain⟨fw,U,xD,akJ,P,W,t,Wp,x,HAI⟩:=h_10 (r7 s (by have:=JI.o;omega)) s g Tn how m C Q M v;clear s g Tn how m B I T L J Ka Q ui v F M C
   go_wp2_with fail
   refine fw.o.mono ?_;rintro e w2 ⟨v,rfl,O⟩;clear d0 Y x1 A c0 D;have Q:=hI (W.o.keep U.o v);have x1:=Q.o.cc;have A:=af x1;have c3:=O.c3;have D:=af c3;have F:=xD.o.trans v;obtain⟨mb,mo,mc,I,L,_,B,_⟩:=fJ (Qh.o w2 F) bR Wp.o;rw[I]at c3;rw[HAI.o]at B;have J:=af B;have lX:=hI F;have H2:=hI O;have hfI:(fN:Int)<(X.m.prog.sig.bj.length:Int):=by have:=Wp.o;omega
   have al5:X.m.prog.sig.bj.length<=8:=Fv HX.o.mod;clear v O F I L;go_wp2;clear x1 A c3 D B J;obtain⟨AR,Y⟩:=xE (d_ a (bP G).1 G.g.length);rw[<-Y]at P;have aiB:=hI Y
   go_loopw [4,29] (λnv i wr=>∃(j n:Nat) (v:Ck),j<=a/\i=.int .i64 j/\nv=.int .i64 (n:Nat)/\dm X (λ_=>False) wr v 0/\X.Kp w wr/\v.g.length<=9*k+1+2*j/\d_ (a-j) v n=AR/\tz X.cx (.slice (some ⟨nb,no,none⟩) X.l.length lc) lb cb wr) (λ_ i _=>a-(intOf i).toNat)
   case atStart=>exact⟨0,G.g.length,(bP G).1,aw _,rfl,rfl,H2.o,lX.o,by rw[iN];have:=akJ.o;omega,aiB.o.symm,Q.o⟩
   case round=>
    obtain⟨j,n,v,hj,rfl,rfl,s,g,F,ue,m⟩:=hrel;by_cases mT:j<a
    ·obtain⟨d,hd⟩:∃d,a-j=d+1:=⟨a-j-1,by omega⟩;have L:a-(j+1)=d:=by omega
     rw[hd]at ue;have KZ:(j:Int)<(a:Int):=by omega
     have x1:=m.cc;have A:=af x1;have c0:=s.c0;have D:=af c0;obtain⟨HCJ,HKJ,Oi,HAJ,akK,nk,HD2⟩:=h_7 s g F ue m mT L;clear s g F ue m hd L
     go_wp2_with fail
     refine ff (S:=λV=>V.cell? ⟨cb,0,none⟩=some (.pointer (some ⟨X.cx,0,none⟩))/\V.cell? ⟨X.cx,0,none⟩=some (.pointer (some ⟨X.gx,0,none⟩))) 12 (by kernel_rfl) (by decide) (⟨x1,c0⟩) (λhHeld=> ?_)
     change mI _ _ Q_ _ _ _ _ _ _ _ _
     refine oD (λZ=>Below wr.heap.size wr Z) (Below.ia bR) hHeld ?_;clear hHeld;rintro V dU hHeld;refine qH 0 ⟨some 31,.load 147 (.tmp 1),147,ee,#[],none⟩ hHeld ?_;refine qH 1 ⟨some 32,.nilCheck (.tmp 31),0,ee,#[aj 0],none⟩ hHeld ?_;refine qH 2 ⟨some 33,.fieldAddr 152 (.tmp 32) 0,0,ee,#[aj 1],none⟩ hHeld ?_;refine qH 3 ⟨some 34,.load 107 (.tmp 33),107,ee,#[aj 2],none⟩ hHeld ?_;refine qH 4 ⟨some 35,.load 147 (.tmp 1),147,ee,#[],none⟩ hHeld ?_;refine qH 5 ⟨some 36,.nilCheck (.tmp 35),0,ee,#[aj 4],none⟩ hHeld ?_;refine qH 6 ⟨some 37,.fieldAddr 152 (.tmp 36) 0,0,ee,#[aj 5],none⟩ hHeld ?_;refine qH 7 ⟨some 38,.load 107 (.tmp 37),107,ee,#[aj 6],none⟩ hHeld ?_;refine qH 9 ⟨some 40,.move (.tmp 4),3,ee,#[],none⟩ hHeld ?_;obtain⟨HB,HGB,B_⟩:=h_3 (HCJ.o.below dU) (akK.o.below dU) (HKJ.o.trans (dm.kp X dU));have HCF:=hI (r7 HB.o (by have:=Oi.o;have:=JI.o;have:=t.o;have:=x.o;omega));clear dU x1 c0 A D;refine qO 8 ⟨some 39,.call ⟨.value (.func 71),#[.tmp 38],#[107]⟩,3,ee,#[aj 7],none⟩ λK L=> ?_;go_simp;refine HCF.o.mono ?_;rintro e w3 ⟨ke,rfl,h3⟩;obtain⟨aiC,kI,H3⟩:=h_3 (HGB.o.keep HB.o ke) (B_.o.trans ke) h3;clear ke h3 hHeld;refine qK L (⟨aiC.o.cc,H3.o.c0⟩) λhHeld=> ?_;clear L K;have Jr:=Below.cA w3 (.cells #[.int .i64 (v.g.length:Nat),.int .i64 (n:Nat)] 3);obtain⟨HCP,CV,HGA,HA⟩:=h_4 (Fh (H3.o.below Jr) (by rw[iN];have:=Oi.o;have:=JI.o;have:=t.o;have:=x.o;omega) 3 2 0 rfl (Fj w3 v.g.length n) (H3.o.OR (w':=w3) lR)) (kI.o.trans (dm.kp X Jr)) (aiC.o.below Jr) (H3.o.below Jr);clear Jr;refine qO 10 ⟨some 41,.buildSlice 74 2 #[(0,.tmp 39),(1,.tmp 40)],74,ee,#[aj 8,aj 9],none⟩ λK L=> ?_;go_simp;refine qK L (⟨HGA.o.cc,HA.o.c0⟩) λhHeld=> ?_;clear L K;refine qO 11 ⟨some 42,.call ⟨.value (.func 112),#[.tmp 34,.const (.int .i64 2),.const (.int .i64 0),.tmp 41],#[107,3,3,74]⟩,3,ee,#[aj 3,aj 10,ao 8],none⟩ λK L=> ?_;go_simp;refine HCP.o.mono ?_;rintro e w4 ⟨B,rfl,h4⟩;obtain⟨I,J,H4⟩:=h_3 (HGA.o.keep HA.o B) (CV.o.trans B) h4;clear B h4 hHeld;refine qK L (⟨I.o.cc,H4.o.c0⟩) λhHeld=> ?_;clear L K;refine jQ (by kernel_rfl) ?_
     change wpList _ Q_ _ [⟨some 4,.assign (.tmp 42),3,ee,#[aj 11,ao 11,al 0,al 1,al 2,al 3,al 4,al 5,al 6,al 7,al 8,al 9,al 10,al 11],none⟩] _ _
     clear hHeld;have M:=x.o;go_wp2
     go_roundw
     case rel=>exact⟨j+1,(bP v).1.g.length,_,nk.o,by go_num,rfl,H4.o,J.o,by rw[lU,iN];have:=Oi.o;omega,by rw[HD2.o];exact HAJ.o,I.o⟩
     case measure=>have:=nk.o;simp[intOf];omega
    ·obtain rfl:j=a:=by omega
     rw[Nat.sub_self]at ue;obtain rfl:(v,n)=AR:=ue;have x1:=m.cc;have A:=af x1;have c6:=s.c6;have D:=af c6;obtain⟨r5,gv5,ps5,uv5,up5,L⟩:=s;obtain⟨o,eo,h6,xH⟩:=L.XK (Int.natCast_nonneg fN) n;have Fk:=hI (g.trans xH);have H6:Hd (dm X (λ_=>False) _ _ _):=hI ⟨_,_,_,_,_,h6⟩;have akL:=hI (m.keep L.at xH);have Oi:=hI F;clear L h6 xH g F m;go_wp2
     go_roundw
     case rel=>exact⟨k+1,_,t.o,by go_num,H6.o,Fk.o,by have:=Oi.o;have:=x.o;show v.g.length<=_;omega,by rw[(show v.env=G.env by have L:=(mN j (bP G).1 G.g.length).2;rw[<-aiB.o]at L;exact L)];exact P.o,akL.o⟩
     case measure=>have:=t.o;simp[intOf];omega
  ·obtain rfl:k=X.l.length:=by omega
   rw[List.drop_length]at how;obtain rfl:G=SO:=congrArg Prod.fst (Option.some.inj how);obtain⟨RR,v⟩:=xE (mf [] true (gq X 0) 0 G);rw[<-v]at ix;have x1:=m.cc;have x0:=m.lc;have A:=af x1;have Y:=af x0;have c4:=s.c4;rw[Ip.o]at c4;have D:=af c4;have T1:X.m.prog.rules.length<=16:=Tl HX.o.mod;obtain⟨aiD,U,xD,W⟩:=h_4 v s g m;clear s g Tn how m v HOW;go_wp2;clear x1 x0 A Y c4 D
   go_loopw [58] (λi wr=>∃(k q c:Nat) (S2:Ck),k<=X.m.prog.rules.length/\i=.int .i64 k/\dm (X.vH q) (λ_=>False) wr S2 c/\X.Kp w wr/\(q=X.eb\/w.heap.size<=q)/\iA X { S2 with env:=G.env}/\(∀y,y<0->look S2.env y=look G.env y)/\Room { S2 with env:=G.env} c (200*(X.m.prog.rules.length-k))/\
    mf [] true (gq X k) c { S2 with env:=G.env}=RR/\jq kF S2.g/\tz X.cx (.slice la X.l.length lc) lb cb wr) (λi _=>X.m.prog.rules.length-(intOf i).toNat)
   case atStart=>exact⟨0,X.eb,0,G,aw _,rfl,U.o,xD.o,.inl rfl,QB.o,λ_ _=>rfl,⟨by have:=AN.o;show G.g.length+_<=_;omega,by show G.us.length+_<=_;rw[HUS.o];simp;omega,by omega⟩,aiD.o.symm,akI.o,W.o⟩
   case round=>
    obtain⟨k,q,c,S2,hk,rfl,s,g,hq,yW,As,O,P,Gu,m⟩:=hrel;obtain⟨N,E8⟩:=xE wr;subst E8;by_cases C:k<X.m.prog.rules.length
    ·obtain⟨b,off,cap,p,pc,q1,qc,yZ,fF,d0,d1,d2,d3,d4,d5,Q,M⟩:=zK (NJ.o N g) bR C;rw[yZ]at Ip;cases Ip.o;have zd:=af d0;obtain⟨r,hr⟩:=xE (cQ X.m.prog.rules k);rw[<-hr]at d0 d1 d2 d3 d4 d5 Q M;have x0:=m.lc;have Y:=af x0;have om:(k:Int)<(X.m.prog.rules.length:Int):=by omega
     obtain⟨x,fZ⟩:=qS N (.cells #[.int .i64 r.fn,.slice p r.bT.len pc,.int .i64 r.rhs.a,.int .i64 r.rhs.n,.slice q1 r.rhs.k.len qc,.int .i64 r.vars] 139);have hrd:X.l.contains r.fn=mH X.l r.fn:=rfl;have bD:=x.size;generalize nW:N.alloc (.cells #[.int .i64 r.fn,.slice p r.bT.len pc,.int .i64 r.rhs.a,.int .i64 r.rhs.n,.slice q1 r.rhs.k.len qc,.int .i64 r.vars] 139)=w1 at x fZ;have v:=hI (xj (.slice la X.l.length lc) X.l r.fn w1 (B1.o w1 (g.trans (dm.kp X x))));have nX:=g.trans (dm.kp X x);obtain⟨nY,H1,F⟩:=h_3 nX (s.below x) (m.below x);have HV1:Hd (I1 w1 X.B (.agg #[.int .i64 r.fn,.slice p r.bT.len pc,.int .i64 r.rhs.a,.int .i64 r.rhs.n,.slice q1 r.rhs.k.len qc,.int .i64 r.vars]) r):=hI ⟨_,_,rfl,Q.below x (by have:=g.size;have:=CI.o;omega),M.below x (by have:=g.size;have:=CI.o;omega)⟩;obtain⟨NN,L,Uf,QY,ox,t,HQ,Zf,jN,BV⟩:=h_10 yW As Gu O P C hq hr fZ nW;clear s g m Q M yW Gu As O P x fZ nX C hq hr hrd nW yZ bD
     go_upto_region 13 with fail
     rw[BV.o];have x0:=F.o.lc;have Y:=af x0;have r0:=cZ jN.o;have zr:=af r0;clear d0 d1 d2 d3 d4 d5 zd;cases M:mH X.l r.fn with
     |false=>
      rw[M]at v;have x:=hI M;clear M
      go_wp2_with (go_at_call 200;refine v.o.mono ?_;rintro e w' ⟨rfl,Q⟩;rw[Q];clear Q w')
      go_roundw
      case rel=>exact⟨k+1,q,c,S2,t.o,by go_num,H1.o,nY.o,HQ.o,NN.o,L.o,QY.o.less (by omega),by rw[<-Gt t.o (by rw[<-Zf.o];exact x.o)];exact ox.o,Uf.o,F.o⟩
      case measure=>have:=t.o;simp[intOf];omega
     |true=>
      rw[M]at v;have Dx:=Zj.o.at t.o (by rw[<-Zf.o];exact M);have gP:=Io HX.o.mod t.o;rw[<-Zf.o]at Dx gP;have x:gq X k=sE true X.C r::gq X (k+1):=by rw[JK t.o (by rw[<-Zf.o];exact M),<-Zf.o]
      have P:=ox.o;rw[x]at P;have O:=QY.o;rw[show X.m.prog.rules.length-k=(X.m.prog.rules.length-(k+1))+1 by have:=t.o;omega]at O;have afj:Room { S2 with env:=G.env} c (r.bT.size+r.rhs.size+200*(X.m.prog.rules.length-(k+1))):=O.less (by omega);have bZ:=Q9 (X:=X.vH q) (HX.o.eb q) (Dx.1.eb q) (Dx.2.eb q) (S:=S2) (c:=c) (E:=G.env) H1.o akH.o L.o (NN.o.eb q) M (afj.less (gz _ _)) HV1.o;have kP:=λS3 u=>Im HX.o Dx.1 Dx.2 (S2:=S3) (u:=u) (c:=c) NN.o M;obtain⟨HBN,Pj,akM⟩:=h_3 kP P afj;have x1:=F.o.cc;have zx1:=af x1;have r1:=eY jN.o;have r2:=fu jN.o;have r3:=xk jN.o;have r4:=Za jN.o;have r5:=cr5 jN.o;clear M Dx gP x P O afj kP;cases hb:X.body G.env r c S2 with
      |none=>
       have Dd:(X.vH q).body G.env r c S2=none:=hb;rw[Dd]at bZ;have fw:=hI bZ;have XN:=Pk (l:=gq X (k+1)) rfl hb;rw[Pj.o]at XN;have HRN:=hI XN;clear hb Dd bZ XN
       go_wp2_with (first|(go_at_call 200;refine v.o.mono ?_;rintro e w' ⟨rfl,Q⟩;rw[Q];clear Q w')|fail)
       refine fw.o.mono ?_;rintro e w4 ⟨B,rfl⟩;have J:=hI (CX.Kp.eb' B nY.o HQ.o);clear B;have hR:=ix.o;rw[HRN.o]at hR;subst hR;go_wp2;exact⟨rfl,J.o,rfl⟩
      |some z=>
       obtain⟨S3,u⟩:=z;have Dd:(X.vH q).body G.env r c S2=some (S3,u):=hb;rw[Dd]at bZ;have fw:=hI bZ;have XN:=Pm (l:=gq X (k+1)) rfl hb;rw[Pj.o]at XN;have HRN:=hI XN;have fT:=hI (HBN.o S3 u hb);clear hb Dd bZ XN
       go_wp2_with (first|(go_at_call 200;refine v.o.mono ?_;rintro e w' ⟨rfl,Q⟩;rw[Q];clear Q w')|fail)
       refine fw.o.mono ?_;rintro e w4 ⟨B,rfl,q',FP,h4⟩;have J:=hI (CX.Kp.eb' B nY.o HQ.o);have H4:=hI h4;have I:Hd (tz X.cx _ lb cb w4):=hI (F.o.keep (X:=X.vH q) H1.o B);have HQ4:Hd (q'=X.eb\/w.heap.size<=q'):=hI (.inr (ai nY.o.size FP));clear B h4 FP;go_wp2
       go_roundw
       case rel=>exact⟨k+1,q',c+(r.bT.size+r.rhs.size),S3,t.o,by go_num,H4.o,J.o,HQ4.o,fT.o.1,λy hy=>fT.o.2.1.neg y hy,fT.o.2.2 _ akM.o,HRN.o.symm,fT.o.2.1.wV kF (by unfold kF;omega) (by unfold kF;omega) (by unfold kF;omega) (by unfold kF;omega) Uf.o,I.o⟩
       case measure=>have:=t.o;simp[intOf];omega
    ·obtain rfl:k=X.m.prog.rules.length:=by omega
     have x:gq X X.m.prog.rules.length=[]:=by unfold gq;rw[List.drop_length];rfl
     rw[x]at P;obtain rfl:some ({ S2 with env:=G.env},())=RR:=P;have hR:R=(match eX S2.g with|none=>none|some _=>some { S2 with env:=G.env}):=ix.o;have v:=hI hR;have B:S2.g.length<=900000000:=by have:=O.1;exact(ai (gz _ _) this)
     obtain⟨r0,gv,ps,uv,up,F⟩:=s;have M:=hI (s_ F.gr yW.ok.low.good.wf (ai B (by decide)));have x1:=m.cc;have zx1:=af x1;have c0:N.cell? ⟨X.cx,0,none⟩=some (.pointer (some ⟨X.gx,0,none⟩)):=F.at.c0;have D:=af c0;obtain⟨H2,lX,NN,L,Uf,I⟩:=h_6 F.at g yW As Gu B;clear F g yW Gu As B O m x hq hR aiD;cases Q:eX S2.g with
     |none=>
      rw[Q]at M v;obtain rfl:R=none:=v.o;clear Q
      go_wp2_with fail
      refine M.o.mono ?_;rintro e w4 ⟨rfl,F⟩;have J:=hI (lX.o.trans (dm.kp X F));clear F;go_wp2;exact⟨rfl,J.o,rfl⟩
     |some z=>
      rw[Q]at M v;obtain rfl:R=some { S2 with env:=G.env}:=v.o;clear Q
      go_wp2_with fail
      refine M.o.mono ?_;rintro e w4 ⟨rfl,F⟩;have J:=hI (lX.o.trans (dm.kp X F));have H4:=hI (H2.o.below F);clear F;go_wp2
      go_end0
      exact⟨J.o,rfl,q,c,S2,H4.o,rfl,L.o,NN.o,I.o,Uf.o⟩
end
section
open Go Go.RowKit
attribute [local go_sem] aT cW df
theorem Iq{t:Nat->Nd}{base x y B:Nat}{g:Gr}{r:Option Nat}{gv:Value}{ps:List Value}(hg:Good g)(Dn:∀i,i<g.length->((aX g i).sort=0\/(aX g i).sort=2\/(aX g i).sort=3\/(aX g i).sort=4)/\(aX g i).parts.length<=1000000)(ht:Trees g t)
 (nv:Value) (ns:List Nat) (w:World) (vs:List Int) (rv:Option Nat) (vv:Value) (lg:Bool) (G:Ints w B nv (cX ns)) (FQ:∀(l:Option Nat) (wr:World),mR y rv l w wr->Ints wr wr.heap.size nv (cX ns)) (hn:∀n∈ns,n<g.length) (a:ed jU w base x g r gv ps) (m:oS w 0 y x vs rv vv lg) (J:Sep ps rv) (Ii:ns.length<=1000000) (ZH:vs.length<=10000000):
 Calls Tryz.prog 103 #[.pointer (some ⟨y,0,none⟩),nv] w λe w'=>∃(Ts:List Nd) (kv:Value) (o_:List Int) (s:Option Nat) (V:Value) (rC:Bool),e=.returned kv/\iJ (nO 26 w.heap.size) w' kv (Fo.of Ts)/\
  ed jU w' base x g r gv ps/\oS w' 0 y x o_ s V rC/\Sep ps s/\mR y rv s w w'/\rD (ns.map t) vs lg Ts o_ rC:=by
 obtain⟨na,nc,rfl⟩:=G.slice;rw[eP];obtain⟨W,X,FU⟩:=h_3 a m J;obtain⟨i0,hi,zW,sZ,xw⟩:=info_parts Tryz.QH;clear G a m J
 go_enter Tryz.func103,Tryz.ntmps103
 go_wp2
 go_loopw [5,11] (λkv i wr=>∃(j:Nat) (v:List Int) (l:Option Nat) (k:Value) (z:Bool) (Ts:List Nd) (Wy:List Value),j<=ns.length/\i=.int .i64 j/\ed jU wr base x g r gv ps/\oS wr 0 y x v l k z/\Sep ps l/\mR y rv l w wr/\
  j_ wr w.heap.size (nO 26 w.heap.size) 26 kv Ts Wy/\rD ((ns.take j).map t) vs lg Ts v z) (λ_ i _=>ns.length-(intOf i).toNat)
 case atStart=>exact⟨0,vs,rv,vv,lg,[],[],aw _,rfl,W.o,X.o,FU.o,mR.refl _ _ _,j_.nil _ _ _ _,rD.nil _ _⟩
 case round=>
  obtain⟨j,v,l,k,z,Ts,Wy,hj,rfl,K,L,M,A,C,D⟩:=hrel;have Y:Ts.length=j:=by have:=D.len;rw[aW,List.length_take]at this;omega
  obtain⟨ka,kc,rfl⟩:=C.slice;rw[Y]at C |-;obtain⟨GJ,Z,PJ,MJ,TJ,AJ,Gj⟩:=h_7 K L M A C D Y;by_cases N:j<ns.length
  ·have O:=hI N;obtain⟨_,a',oh,he,_,_,m⟩:=FQ _ _ A;obtain⟨nb,no,NA,qM,J⟩:=m (by rw[eP];omega);cases he;subst NA;have d0:wr.cell? ⟨nb,no+j,none⟩=some (.int .i64 ((ns[j]?.getD 0:Nat):Int)):=by
    rw[J j (by rw[eP];omega)];show some (Value.int .i64 (cN (cX ns) j))=_;rw[ky]
   obtain⟨P,G⟩:=xE (ns[j]?.getD 0);have E:P∈ns:=by rw[G,ae N];exact aR _
   have XO:=hn P E;have wS:Hd ((ns.take (j+1)).map t=(ns.take j).map t++[t P]):=hI (by
    rw[aV N,bA,G,ae N];rfl)
   rw[<-G]at d0;have a:=D.many;have F:((ns.take j).map t).length=j:=by rw[aW,List.length_take];omega
   rw[F]at a;have HC:=hI (LL hg Dn ht P wr v l k z XO K L M (by omega));have afi:nb<wr.heap.size:=by have:=A.size;omega
   have KZ:(j:Int)<(ns.length:Int):=by omega
   clear K L M A C D m J G E a F Y
   go_wp2_with fail
   refine HC.o.mono ?_;rintro e E ⟨T',Nk,gT,o_,s,V,rC,rfl,mJ,y7,Qq,vZ,J,ef⟩;have key:∀{b:Nat} {d:Array Value} {f:Nat×Nat},wr.heap[b]? =some (.cells d 26 f)->E.heap[b]? =some (.cells d 26 f):=λ{b d f} a=>by
    have ne:∀{c:Nat} {G:Array Value} {u:TypeId},wr.heap[c]? =some (.cells G u (0,0))->u≠26->b≠c:=λ{c G u} h2 eC e=>by
     subst e;rw[a]at h2;exact anz
    refine J.same _ _ a (ne Z.o.fW (by decide)) (λe=> ?_);obtain⟨_,cur,hc⟩:=Z.o.lt.2 b e.symm;exact ne hc (by decide) rfl
   have t3:=TJ.o.keep (λb cur _ a=>key a) (λb o m a=>by obtain⟨_,cur,f,rfl⟩:=m;exact key a);have rH:=iI TJ.o.own;have F:Hd (w.heap.size<=wr.heap.size/\wr.heap.size<=E.heap.size):=hI ⟨MJ.o.size,J.size⟩;obtain⟨G,lW⟩:=nH2 E (.cells #[.int .i64 T'.a,.int .i64 T'.n,Nk] 26) (.cells #[.int .i64 T'.a,.int .i64 T'.n,Nk] 26);obtain⟨Q,R,lZ,H,S,Gk,ox,kI,cR⟩:=h_9 (y7.below G) (Qq.below G) vZ ((MJ.o.trans J).below G) (t3.keep (λb cur _ a=>cY G a) (gN.below G)) ((mJ.keep (gN.below G)).mono (S':=λb o=>nO 26 w.heap.size b o/\some b≠(Value.slice ka j kc).ownBlock) (λb o _ m=>⟨⟨ai F.o.1 m.1,m.2⟩,λe=>by have:=(rH b e.symm).2;have:=m.1;omega⟩)) ef lW.2 G;have HOY:Hd (∀q,(Value.slice ka j kc).ownBlock=some q->w.heap.size<=q):=hI λq I=>(rH q I).1;obtain⟨T,U,Oo⟩:=mJ.slice;subst Oo;clear y7 Qq vZ J mJ ef t3 rH key G lW HC
   go_wp2_with (at_builtin;refine wpList_append_own_at _ rfl _ _ 24 rfl w.heap.size 26 i0 _ 3 40 Tryz.underlying24 hi zW sZ xw rfl (by decide) _ _ _ rfl S.o.own ⟨E.heap.size+1,0,none⟩ 1 1 [.int .i64 T'.a,.int .i64 T'.n,.slice T T'.k.len U] rfl rfl ?c1 ?c2 ?c3 ?c4 ?c5 ?_)
   case c1=>
    exact anw
   case c2=>
    exact ank
   case c3=>have:=Gj.o;have:=O.o;unfold maxLen;omega
   case c4=>have:=Gj.o;have:=O.o;omega
   case c5=>have:=cR.o.size;have:=F.o;omega
   intro v' w4 eM m _ mF;obtain⟨uB,uC,rfl⟩:=cr eM;have t4:=j_.snoc (t:=T') (p:=.slice T T'.k.len U) S.o eM m (mF.imp (λe=>e) λe=>e.trans (by simp)) Gk.o;have key:∀{b:Nat} {d:Array Value} {u:TypeId} {f:Nat×Nat},((E.alloc (.cells #[.int .i64 T'.a,.int .i64 T'.n,.slice T T'.k.len U] 26)).alloc (.cells #[.int .i64 T'.a,.int .i64 T'.n,.slice T T'.k.len U] 26)).heap[b]? =some (.cells d u f)->u≠26->some b≠(Value.slice ka j kc).ownBlock:=λ{b d u f} h2 eC e=>by
    obtain⟨cur,hc⟩:=vq S.o.own e.symm;rw[hc]at h2;exact anz
   have g4:=Q.o.Wn (o:=none) (λo G=>(m.block x (gE G).1 (key Q.o.fW (by decide))).trans G) (λq o I G=>by obtain⟨cur,hc,_⟩:=Q.o.ey I;exact(m.block q (gE G).1 (key hc (by decide))).trans G) (Sep.none _) (λb cur f a _=>(m.block b (gE a).1 (key a (by decide))).trans a);have s4:=R.o.keep (λo G=>(m.block y (gE G).1 (key R.o.fW (by decide))).trans G) (λq o I G=>by obtain⟨_,cur,hc⟩:=R.o.lt.2 q I;exact(m.block q (gE G).1 (key hc (by decide))).trans G);have v4:=((H.o.toX (λ_=>False)).grown m HOY.o).toV;have a4:=rD.snoc AJ.o ox.o;rw[<-wS.o]at a4;have J:=hI (show _/\_/\_/\_/\_ from⟨g4,s4,v4,t4,a4⟩);clear eM m mF t4 key g4 s4 v4 a4 Q R H S Gk ox kI cR;go_wp2
   go_roundw
   case rel=>exact⟨j+1,o_,s,V,rC,Ts++[T'],_,O.o,by go_num,J.o.1,J.o.2.1,lZ.o,J.o.2.2.1,J.o.2.2.2.1,J.o.2.2.2.2⟩
   case measure=>have:=O.o;simp[intOf];omega
  ·obtain rfl:j=ns.length:=by omega
   clear K L M A C D;go_wp2;go_ret;have G:=AJ.o;rw[bE]at G;exact⟨Ts,_,v,l,k,z,rfl,TJ.o.aaC (λb cur a=>⟨a,_,_,rfl⟩) (by rw[Gj.o];omega),GJ.o,Z.o,PJ.o,MJ.o,G⟩
end
section
open Go Go.RowKit Go.Sort
attribute [local go_sem] aT cW df nV uV
theorem Pn:∀{l:List Nd},(∀t∈l,t.one.nr)->(Fo.of l).nr
 |[],_=>trivial
 |t::l,h=>by
  have a:=h t (by simp);exact⟨a.1,a.2.1,Pn λx b=>h x (by simp[b])⟩
theorem Ra:∀{F:Fo},F.nr->∀t∈F.list,t.one.nr
 | .cons a n k r,h,t,b=>by
  rcases aE.1 b with rfl|b
  ·exact⟨h.1,h.2.1,trivial⟩
  ·exact Ra h.2.2 t b
theorem Dy:∀(f:Fo) (vs:List Int),f.nr->(f.num vs).2.nr
 | .nil,_,_=>trivial
 | .cons a n k r,vs,h=>by
  unfold Fo.num
  split
  ·exact⟨.inl rfl,trivial,Dy r _ h.2.2⟩
  ·exact⟨h.1,Dy k _ h.2.1,Dy r _ h.2.2⟩
theorem Trees.nr{g:Gr}{t:Nat->Nd}(b:Trees g t)(h:Good g)(c:jq kF g):∀i,i<g.length->(t i).one.nr:=by
 obtain⟨d,hr⟩:=b.small;have key:∀(k i:Nat),i<g.length->d (Go.Proofs.YtnicceekibancaaGreat.find g i)<k->(t i).one.nr:=by
  intro k
  induction k with
  |zero=>intro i _ h;exact ay h (ax _)
  |succ k ih=>
   intro i hi l;have hf:=h.wf.il hi;cases a:dQ (aX g (Go.Proofs.YtnicceekibancaaGreat.find g i))with
   |true=>rw[b.free i hi a];exact⟨.inl rfl,trivial,trivial⟩
   |false=>
    rw[b.node i hi a];have f:=(c _ hf).1;have j:(aX g (Go.Proofs.YtnicceekibancaaGreat.find g i)).sort≠0:=by unfold dQ at a;simpa using a
    refine⟨by rcases f with e|e|e|e;exact ay e j;exact .inr (.inl e);exact .inr (.inr (.inl e));exact .inr (.inr (.inr e)),Pn λx hx=> ?_,trivial⟩;exact anE
 exact λi hi=>key _ i hi (Nat.lt_succ_self _)
theorem XP{ts us:List Nd}(a:∀t∈ts,t.one.nr)(h:uK ts=some us):∀t∈us,t.one.nr:=by
 unfold uK at h
 split at h
 ·cases h;exact Ra (Dy _ _ (Pn a))
 ·cases h
theorem vo.below(h:vo q w w'){B:Nat}(hB:B<=q)(hw:B<=w.heap.size):Below B w w':=
 ⟨h.os,h.tape,h.output,h.size,λk a=>by
  have a:k<w.heap.size:=by omega
  rw[h.same k w.heap[k] (by omega) (cD a),cD a]⟩
theorem cU.but{X:CX}{r:Option Nat}{gv:Value}{ps:List Value}{uv:Value}{up:List Value}(h:cU X Z w S c r gv ps uv up){d:Array Value}{f0:Nat×Nat}(hq:w.heap[q]? =some (.cells d 4 f0))(hb:vo q w w')(hB:X.B<=q):cU X Z w' S c r gv ps uv up:=by
 have i:Below X.B w w':=hb.below hB (ai h.hB h.lt.2.2);have a:∀(b:Nat) (cur:Array Value) (t:TypeId) (f:Nat×Nat),t≠4->w.heap[b]? =some (Obj.cells cur t f)->w'.heap[b]? =some (Obj.cells cur t f):=λb cur t f k g=>hb.same _ _ (λe=>by
  subst e;rw[hq]at g;cases g;exact k rfl) g
 have j:∀{mb:Nat} {f:Int->Option Value},eu eT w mb f->eu eT w' mb f:=λ{mb f} hm=>hm.same λo ho=>by
  exact anT
 have G:tX Z w w':=λb cur f l m=>a _ _ _ _ (by decide) l;exact⟨a _ _ _ _ (by decide) h.fW,h.gr.js h.sep.left.left (λo ho=>by rw[h.gr.fW]at ho;cases ho;exact a _ _ jU.T _ (by decide) h.gr.fW) (λq o hq ho=>by
  obtain⟨cur,hc,_⟩:=h.gr.ey hq;rw[hc]at ho;cases ho;exact a _ _ jU.V _ (by decide) hc) G,j h.own,j h.env,
  h.us.keep h.sep.left.right (λq cur hq=>a _ _ 177 _ (by decide) hq) G,h.md.below i lR,h.ty.below i lR,h.kc.js h.sep.right G,h.sep,h.hB,h.xR,h.xe,h.SW,h.eC,λq hq=>aC (h.uq q hq) hb.size⟩
theorem CX.Kp.but{X:CX}{w1 b:World}(h:X.Kp w w1)(a:vo q w1 b)(f:w.heap.size<=q):X.Kp w b:=
 ⟨a.os.trans h.os,a.tape.trans h.tape,a.output.trans h.output,ai h.size a.size,λk o c d e=>a.same k o (by have:=(gE c).1;omega) (h.same k o c d e)⟩
theorem eu.get_at{mb:Nat}{f:Int->Option Value}(h:eu eT w mb f){k:Int}{v:Value}(a:f k=some v):(Instr.lookup 120 (.map (some mb)) (.int .i64 k) false).run Tryz.prog w=.ok v w:=
 (lp (T:=120) (et:=3) (P:=Tryz.prog) Tryz.underlying120 gU h (k:=k) a false).trans rfl
theorem Ir{L:List Nd}{Ts:List Nd}{o_:List Int}{rC:Bool}(h:rD L [] false Ts o_ rC):uK L=if(!rC&&decide (o_.length<=20))then some Ts else none:=by
 unfold uK;by_cases a:∀T∈L,T.size<=20
 ·obtain⟨c,d,e⟩:=h.fit a;have b:(L.all λt=>decide (t.size<=20))=true:=by
   rw[aK];intro t f;exact aI (a t f)
  rw[b,e,c,d];rfl
 ·have b:(L.all λt=>decide (t.size<=20))=false:=by
   rw[b5];intro hc;rw[aK]at hc;exact a λT c=>bu (hc T c)
  rw[b,h.cut a];rfl
def afl(X:CX)(w:World)(r:PY (List Nd))(e:Ending)(w':World):Prop:=X.Kp w w'/\match r with
 | .rp=>e=.returned (.tuple #[.slice none 0 0,.int .i64 7])
 | .px=>e=.returned (.tuple #[.slice none 0 0,.int .i64 3])
 | .ok ts=>∃kv,e=.returned (.tuple #[kv,.int .i64 0])/\iJ (nO 26 w.heap.size) w' kv (Fo.of ts)/\∀t∈ts,t.one.nr
def afm(l:List Int):Option Ck->PY (List Nd)
 |none=>.rp
 |some S=>match Kw S.g (l.map (hO S))with
  |none=>.px
  |some ts=>.ok ts
theorem Po(m:Md)(types:List Nd)(l:List Int):oe true m types l=afm l (od true m types l):=by
 unfold oe afm;cases od true m types l<;>rfl
structure Ms (X:CX) (lv:Value) (lb cb y:Nat) (w0:World) (S:Ck) (c:Nat) (ns:List Nat) (nv:Value) (W:World):Prop where
 raw:∃r gv ps uv up,cU X (ZR (λ_=>False) nv) W S c r gv ps uv up
 box:tz X.cx lv lb cb W
 scr:W.heap[y]? =some (.cells #[.pointer (some ⟨X.gx,0,none⟩),.slice none 0 0,.bool false] 119 (0,0))
 own:W.ownsRow w0.heap.size 3 1 nv ns.length (cE (cX ns))
 low:Below w0.heap.size w0 W
 B:X.B<=w0.heap.size
theorem Ms.below{X:CX}{lv:Value}{lb cb y:Nat}{w0:World}{ns:List Nat}{nv:Value}(h:Ms X lv lb cb y w0 S c ns nv W)(a:Below W.heap.size W W'):Ms X lv lb cb y w0 S c ns nv W':=by
 obtain⟨r,gv,ps,uv,up,b⟩:=h.raw;exact⟨⟨r,gv,ps,uv,up,b.below a⟩,h.box.below a,cY a h.scr,gC h.own (CK.below a),ag h.low a lR,h.B⟩
theorem Ms.push{X:CX}{lv:Value}{lb cb y:Nat}{w0:World}{ns:List Nat}{nv b:Value}{x:Nat}(h:Ms X lv lb cb y w0 S c ns nv W)(f:W'.ownsRow w0.heap.size 3 1 b (ns.length+1) (cE (cX ns)++[.int .i64 (x:Nat)]))(d:W.grownBy W' nv.ownBlock)(g:b.ownBlock=nv.ownBlock\/b.ownBlock=some W.heap.size):
 Ms X lv lb cb y w0 S c (ns++[x]) b W':=by
 obtain⟨r,gv,ps,uv,up,i⟩:=h.raw;have l:∀{q:Nat} {cur:Array Value} {t:TypeId},t≠3->W.heap[q]? =some (Obj.cells cur t (0,0))->W'.heap[q]? =some (Obj.cells cur t (0,0)):=λ{q cur t} j a=>(d.block q (gE a).1 (λe=>lQ h.own a j _ e.symm rfl)).trans a;refine⟨⟨r,gv,ps,uv,up,i.append h.own d g f h.B⟩,⟨l (by decide) h.box.l,l (by decide) h.box.c⟩,l (by decide) h.scr,?_,h.low.grown d h.low.size λq a=> ?_,h.B⟩
 ·rw[kO,<-eZ,az,aY];exact f
 ·rcases h.own.2 with⟨rfl,_⟩|⟨g',cap,cur,rfl,j,k,_⟩
  ·cases a
  ·cases a;exact j
theorem XQ{X:CX}(hX:Ds X)(hg:CC X.C X.m X.l)(hr:yM X)(hl:∀f∈X.l,0<=f/\f.toNat<X.m.prog.sig.bj.length)(t_:X.l.length<=1000)(h:dm X (λ_=>False) w gX 0){lv:Value}(hv:Ints w X.B lv X.l):
 Calls Tryz.prog 168 #[.pointer (some ⟨X.cx,0,none⟩),lv] w (afl X w (oe true X.m X.types X.l)):=by
 obtain⟨P,U,B,N,E,D⟩:=h.ae7;have z:X.B<=w.heap.size:=ai E h.lt.2.2;obtain⟨s,lc,rfl⟩:=hv.slice;have a:=Below.jE w (.cells #[.pointer (some ⟨X.cx,0,none⟩)] 147) (.cells #[.slice s X.l.length lc] 74);have x:tz X.cx (.slice s X.l.length lc) (w.heap.size+1) w.heap.size ((w.alloc (.cells #[.pointer (some ⟨X.cx,0,none⟩)] 147)).alloc (.cells #[.slice s X.l.length lc] 74)):=⟨(cH _ _ _).2,(cH _ _ _).1⟩;obtain⟨u,l⟩:=xE ((w.alloc (.cells #[.pointer (some ⟨X.cx,0,none⟩)] 147)).alloc (.cells #[.slice s X.l.length lc] 74));rw[<-l]at a x;have Ub:Hd (Ints u X.B (.slice s X.l.length lc) X.l):=hI (hv.below a z);obtain⟨H2,I,lX⟩:=h_3 (h.below a) x (dm.kp X a);have G:Hd (X.B<=u.heap.size):=hI (ai z a.size);have J:Hd (w.heap.size<=u.heap.size):=hI a.size;obtain⟨Co,T6,HX,HG,HR,HL,K⟩:=h_7 E l hX hg hr hl t_;obtain⟨R,j⟩:=xE (od true X.m X.types X.l);have Mt:=hI (q9 218 #[.pointer (some ⟨w.heap.size+1,0,none⟩),.pointer (some ⟨w.heap.size,0,none⟩)]
  (λW'=>(W'.heap[u.heap.size]? =some (.cells #[.bool false] 4 (0,0))/\tz X.cx (.slice s X.l.length lc) (w.heap.size+1) w.heap.size W')/\X.Kp u W'/\∃S,R=some S/\∃(q c:Nat) (S':Ck),dm (X.vH q) (λ_=>False) W' S' c/\S'.g=S.g/\(∀y,y<0->look S'.env y=look S.env y)/\iA X S/\S.g.length<=900000000/\jq kF S.g)
  (λW'=>X.Kp u W'/\R=none) u (λ_ _=>rfl) (by
   rintro V F;have g:Below u.heap.size u V:=by rw[F];exact Below.cA _ _
   have C:V.heap[u.heap.size]? =some (.cells #[.bool false] 4 (0,0)):=by rw[F];exact a_ _ _
   have hc:=H2.o.below g;refine(Tm HX.o HG.o HR.o HL.o K.o hc (Ub.o.below g G.o) (I.o.below g)).mono ?_;rw[<-j];rintro e W' ⟨d,H⟩;refine⟨hc.stays d C (by decide) (by decide) (by unfold Ic;decide),?_⟩;cases R with
   |none=>exact .inr ⟨H,(dm.kp X g).trans d,rfl⟩
   |some S=>exact .inl ⟨H.1,⟨hc.stays d C (by decide) (by decide) (by unfold Ic;decide),(I.o.below g).keep hc d⟩,(dm.kp X g).trans d,S,rfl,H.2⟩))
 clear h hv P U B N E D z a x l hX hg hr hl t_;have p:=λS (e:od true X.m X.types X.l=some S)=>Xa HG.o e;obtain⟨RR,A⟩:=xE (oe true X.m X.types X.l);have M:Hd (RR=afm X.l R):=hI (by rw[A,j,Po]);rw[<-A];rw[<-j]at p;have HGY:=hI p;clear A j p;have CT:= @run_makeMap Tryz.prog
 go_enter Tryz.func168,Tryz.ntmps168
 go_upto_region 1 with fail
 rw[<-T6.o]
 go_wp2_with fail
 refine Mt.o.mono ?_;rintro e l (⟨rfl,W1,⟨⟨C,x⟩,d,S,hRS,q,c,S',l8,tS,As,p_,a,Gu⟩,p⟩|⟨rfl,W1,⟨d,XN⟩,p⟩)
 ·have z:tz X.cx (.slice s X.l.length lc) (w.heap.size+1) w.heap.size l:=⟨p.same _ _ (λe=>by have:=x.l;rw[e,C]at this;cases this) x.l,p.same _ _ (λe=>by have:=x.c;rw[e,C]at this;cases this) x.c⟩;obtain⟨r,gv,ps,uv,up,fh⟩:=l8;have XR:=fh.but C p G.o;have Y:=hI (CX.Kp.but (lX.o.trans d) p J.o);have A:=M.o;subst hRS;have N:RR=match uK ((X.l.map (hO S)).map (iP S.g))with|none=>.px|some ts=>.ok ts:=A
  have akN:=hI N;obtain⟨O,D,Dx⟩:=HGY.o S rfl;have uT:∀n∈X.l.map (hO S),n<S.g.length:=λn Z=>by obtain⟨f,B,rfl⟩:=aN.1 Z;exact D f B
  have Dn:∀i,i<S.g.length->((aX S.g i).sort=0\/(aX S.g i).sort=2\/(aX S.g i).sort=3\/(aX S.g i).sort=4)/\(aX S.g i).parts.length<=1000000:=λi hi=>by
   have:=Gu i hi;exact⟨this.1,by omega⟩
  have P:∀f∈X.l,look S'.env (-1-f)=some (hO S f):=λf B=>by
   have F:=(HL.o f B).1;rw[As _ (by omega)];obtain⟨_,m,hm⟩:=p_.ok.own f (by show X.l.contains f=true;rw[bh];exact B);unfold hO;rw[hm];rfl
  obtain⟨HSR,NQ,Q,akO,T,HGG,Uf⟩:=h_7 Dn Dx uT P O.good tS Gu;obtain⟨E,F⟩:=qS l (.cells #[.pointer (some ⟨X.gx,0,none⟩),.slice none 0 0,.bool false] 119);have x1:=z.cc;have x0:=z.lc;have zx:=af x1;have U:=af x0;have c0:l.cell? ⟨X.cx,0,none⟩=some (.pointer (some ⟨X.gx,0,none⟩)):=XR.at.c0;have zc:=af c0;obtain⟨w4,NW⟩:=xE (l.alloc (.cells #[.pointer (some ⟨X.gx,0,none⟩),.slice none 0 0,.bool false] 119));rw[<-NW]at E F;have W:Hd (Ms (X.vH q) (.slice s X.l.length lc) (w.heap.size+1) w.heap.size l.heap.size w4 S' c [] (.slice none 0 0) w4):=hI ⟨⟨r,gv,ps,uv,up,(XR.below E).z λq h=>by rcases h with h|h;exact h;cases h⟩,z.below E,F,aZ _ _ _ _,bR,by have:=G.o;have h1:=d.size;have h2:=p.size;have h3:=E.size;show X.B<=_;omega⟩;have HW4:=hI NW;have oI:=hI E;have HV4:Hd (Ints w4 X.B (.slice s X.l.length lc) X.l):=hI (((Ub.o.below (H2.o.low d Co.o) lR).below (p.below G.o (ai G.o d.size)) lR).below E (by have:=G.o;have h1:=d.size;have h2:=p.size;omega));clear XR fh z x C p d A N O D uT Dx Dn P tS As p_ a Gu E F NW
  go_upto_region 5 with fail
  rw[<-HW4.o];have x0:=W.o.box.lc;have U:=af x0;have t_:=K.o;go_wp2;clear x1 zx x0 U c0 zc
  go_loopw [8,24] (λnv i wr=>∃k:Nat,k<=X.l.length/\i=.int .i64 k/\Ms (X.vH q) (.slice s X.l.length lc) (w.heap.size+1) w.heap.size l.heap.size w4 S' c ((X.l.take k).map (hO S)) nv wr) (λ_ i _=>X.l.length-(intOf i).toNat)
  case atStart=>exact⟨0,aw _,rfl,W.o⟩
  case round=>
   obtain⟨k,d,rfl,a⟩:=hrel;obtain⟨va,vc,rfl⟩:=cr a.own;have hlen:((X.l.take k).map (hO S)).length=k:=by rw[aW,List.length_take];omega
   rw[hlen];by_cases D:k<X.l.length
   ·obtain⟨_,a',oh,he,_,_,Np⟩:=HV4.o.below a.low a.B;obtain⟨nb,no,NA,qM,bX⟩:=Np (by omega);cases he;subst NA;have d0:wr.cell? ⟨nb,no+k,none⟩=some (.int .i64 (cN X.l k)):=bX k (by omega);obtain⟨f,B⟩:=xE (cN X.l k);have N:f=X.l[k]:=by rw[B];unfold cN;rw[ae D];rfl
    have F:f∈X.l:=by rw[N];exact aR _
    rw[<-B]at d0;have P:(X.l.take (k+1)).map (hO S)=(X.l.take k).map (hO S)++[hO S f]:=by rw[aV D,bA,N];rfl
    have afi:nb<wr.heap.size:=by have h1:=a.low.size;have h2:=a.B;have h3:(X.vH q).B=X.B:=rfl;omega
    have om:(k:Int)<(X.l.length:Int):=by omega
    obtain⟨r1,Q2,LA,U,up1,E⟩:=a.raw;have qE:(Instr.lookup 120 (.map (some X.ob)) (.int .i64 f) false).run Tryz.prog wr=.ok (.int .i64 ((hO S f:Nat):Int)) wr:=E.own.get_at (k:=f) (v:=nV (hO S f)) (by rw[aq (HL.o f F).1,akO.o f F];rfl);have x1:wr.cell? ⟨w.heap.size,0,none⟩=some (.pointer (some ⟨X.cx,0,none⟩)):=a.box.cc;have zx:=af x1;have c6:wr.cell? ⟨X.cx,6,none⟩=some (.map (some X.ob)):=E.at.c6;have zc:=af c6;generalize hm:hO S f=m at qE P;have kP:=Below.cA wr (.cells #[.int .i64 (m:Nat)] 3);obtain⟨z,JJ,wS,dL⟩:=h_4 (a.below kP) (a_ wr (.cells #[.int .i64 (m:Nat)] 3)) P D;clear a E kP P hm Np bX B N F D;generalize hL:(X.l.take k).map (hO S)=L at z wS hlen;subst hlen;clear hL
    go_wp2_with (at_builtin;refine lM rfl Cp _ _ rfl rfl z.o.own (q:=wr.heap.size) (us:=[.int .i64 (m:Nat)]) rfl JJ.o rfl (one_one rfl) (by have:=K.o;have:=dL.o;omega) (by have:=z.o.low.size;omega) ?_;intro v' w5 N P Mu;obtain⟨vb,vd,rfl⟩:=cr N;have F:=hI (z.o.push N P Mu);clear N P Mu)
    go_roundw
    case rel=>exact⟨L.length+1,dL.o,by go_num,by rw[wS.o];exact F.o⟩
    case measure=>have:=dL.o;simp[intOf];omega
   ·obtain rfl:k=X.l.length:=by omega
    rw[bE]at a;obtain⟨r1,Q2,LA,U,up1,E⟩:=a.raw;have P:ed jU wr X.base X.gx S.g r1 Q2 LA:=by rw[<-HGG.o];exact E.gr
    have Kf:oS wr 0 l.heap.size X.gx [] none (.slice none 0 0) false:=⟨a.scr,rfl,aZ _ _ _ _⟩;have z:(X.l.map (hO S)).length=X.l.length:=aW _;have z8:dw wr (.slice va X.l.length vc) (X.l.map (hO S)):=by
     have h1:=dw.pF a.own (by rw[z];have:=K.o;omega);rw[z]at*;exact h1
    have F:∀(Hp:Option Nat) (V:World),mR l.heap.size none Hp wr V->Ints V V.heap.size (.slice va X.l.length vc) (cX (X.l.map (hO S))):=λHp V N=>(z8.keep λb cur f g=>N.same b _ g (λe=>by
     subst e;have:=a.scr;rw[g]at this;simp only[aL,Obj.cells.injEq]at this;exact ay this.2.1 (by decide)) (by simp)).ints
    have HC:=hI (Iq T.o HSR.o NQ.o _ (X.l.map (hO S)) wr [] none (.slice none 0 0) false (F _ _ (mR.refl _ _ _)) F Q.o P Kf (Sep.none _) (by rw[z];have:=K.o;omega) (by simp));have fT:Hd (Below l.heap.size l wr):=hI (ag oI.o a.low lR);clear a E P Kf z z8 F
    go_wp2_with fail
    refine HC.o.mono ?_;rintro e w6 ⟨Ts,kv,o_,qN,yz,rC,rfl,mJ,y7,Qq,vZ,N,H⟩;have sC:iJ (nO 26 w.heap.size) w6 kv (Fo.of Ts):=mJ.mono λb o ho Z=>⟨ai (ai Y.o.size fT.o.size) Z.1,Z.2⟩;have O:Below l.heap.size l w6:=fT.o.trans (N.toBelow lR (λq e=>by cases e) fT.o.size);have iE:=Ir H;obtain⟨HF,P,F⟩:=h_3 sC (LF Qq) (Y.o.trans (dm.kp X O));have j:=akN.o;have z:Hd (∀us,uK ((X.l.map (hO S)).map (iP S.g))=some us->∀t∈us,t.one.nr):=hI λus XM=>XP (λt ht=>by
     obtain⟨i,hi,rfl⟩:=aN.1 ht;exact NQ.o.nr T.o Uf.o i (Q.o i hi)) XM
    rw[iE]at j z;clear mJ y7 vZ N H sC O iE Qq;cases g:(!rC&&decide (o_.length<=20))with
    |false=>
     rw[g]at j P;simp only[bF,if_false]at j;subst j;clear g
     go_wp2_with fail
     refine P.o.mono ?_;rintro e w7 ⟨rfl,N⟩;rw[N];clear N w7;go_wp2
     go_ret2
     exact⟨F.o,rfl⟩
    |true=>
     rw[g]at j P z;simp only[if_true]at j z;subst j;clear g
     go_wp2_with fail
     refine P.o.mono ?_;rintro e w7 ⟨rfl,N⟩;rw[N];clear N w7;go_wp2
     go_ret2
     exact⟨F.o,kv,rfl,HF.o,z.o _ rfl⟩
 ·have Y:=hI (CX.Kp.but (lX.o.trans d) p J.o);have A:=M.o;subst XN;subst A;clear d p;go_wp2
  go_ret2
  exact⟨Y.o,rfl⟩
end
section
open Go Go.RowKit
theorem vJ{ds:List fV}:∀{F:Fo},ou (dA ds v) F=true->F.nr
 | .nil,_=>trivial
 | .cons a n k r,h=>by
  unfold ou at h;simp only[ak]at h;refine⟨?_,vJ h.1.2,vJ h.2⟩;have b:=h.1.1;unfold dA at b;by_cases c:a=1
  ·exact .inl c
  by_cases d:a=2
  ·exact .inr (.inl d)
  by_cases e:a=3
  ·exact .inr (.inr (.inl e))
  by_cases f:a=4
  ·exact .inr (.inr (.inr f))
  rw[ah c,ah d,ah e,ah f]at b;cases b
theorem XS{ds:List fV}{F:Fo}(h:pR ds v F=true):F.nr/\F.size<=80:=by
 unfold pR at h;simp only[ak,decide_eq_true_eq]at h;obtain⟨l,hp⟩:=h;have d:=EC hp;have f:∀F:Fo,(∀t∈F.list,dB ds v t=true)->F.nr:=by
  intro F
  induction F with
  |nil=>exact λ_=>trivial
  |cons a n k r _ g=>
   intro d;have b:=d ⟨a,n,k⟩ (by unfold Fo.list;exact aO);unfold dB at b;simp only[ak]at b;have e:=vJ (vz b.2);exact⟨e.1,e.2.1,g λt j=>d t (by unfold Fo.list;exact aS _ j)⟩
 refine⟨f F d,?_⟩;have:=qY (F:=F) (c:=20) λi hi=>by
  have b:=d _ (Fo.at_mem hi);unfold dB at b;simp only[ak,decide_eq_true_eq]at b;exact b.1
 omega
theorem Rb{Q:Int->Fo->Prop}:∀(l:List Da) (d:Nat) (n:Int),(∀x∈l,∀F∈x.cons,Q x.params F)->(∀x∈l,Q x.params .nil)->Q 0 .nil->Q (gH l d n).2.1 (gH l d n).2.2
 |[],_,_,_,_,a=>a
 |x::l,d,n,h,b,a=>by
  unfold gH
  split
  ·cases c:x.cons[n.toNat]? with
   |none=>exact b x aO
   |some F=>exact h x aO F (List.mem_of_getElem? c)
  ·exact Rb l (d+1) _ (λy hy=>h y (aS _ hy)) (λy hy=>b y (aS _ hy)) a
theorem xM{ds:List fV}(h:dg ds=true):∀d∈ds,0<=d.params/\d.params<=3:=by
 rw[<-q_]at h;unfold oT at h;simp only[ak,aK]at h;intro d a;have hp:=h.1.1.2 d a;unfold gM at hp;simp only[ak,decide_eq_true_eq]at hp;exact⟨hp.1.1.2,hp.1.2⟩
theorem XT(h:dg m.bH=true)(types:List Nd)(l:List Int):QT (kn m types l):=by
 have key:∀n,(gH (kn m types l).bH 0 n).2.1.toNat<=100/\(gH (kn m types l).bH 0 n).2.2.size<=400/\(gH (kn m types l).bH 0 n).2.2.nr/\∀x,(gH (kn m types l).bH 0 n).2.2.has x->x.toNat<(gH (kn m types l).bH 0 n).2.1.toNat:=λn=>by
  refine Rb (Q:=λp F=>p.toNat<=100/\F.size<=400/\F.nr/\∀x,F.has x->x.toNat<p.toNat) _ 0 n (λx a F hF=> ?_) (λx a=> ?_) ?_
  ·obtain⟨d,b,rfl⟩:=aN.1 a;have hp:=xM h d b;have hc:=vA h d b F hF;obtain⟨c,e⟩:=XS hc;refine⟨by show d.params.toNat<=100;omega,by omega,c,λx a=> ?_⟩;have:=(Jy hc).2 x a;show x.toNat<d.params.toNat;omega
  ·obtain⟨d,b,rfl⟩:=aN.1 a;have hp:=xM h d b;exact⟨by show d.params.toNat<=100;omega,aw _,trivial,λx a=>a.elim⟩
  ·exact⟨by decide,aw _,trivial,λx a=>a.elim⟩
 exact⟨λn=>(key n).1,λn=>(key n).2.1,λn=>(key n).2.2.1,λn x a=>(key n).2.2.2 x a⟩
theorem DA:∀(F:Fo) (b:Nat),(∀x,F.has x->x.toNat<b)->F.i_<=b
 | .nil,_,_=>aw _
 | .cons a n k r,b,h=>by
  unfold Fo.i_;have e:∀x,Fo.has (.cons a n k r) x↔if a=1 then x=n\/r.has x else k.has x\/r.has x:=λx=>Iff.rfl;by_cases c:a=1
  ·rw[aq c];have f:=h n ((e n).2 (by rw[aq c];exact .inl rfl));have g:=DA r b λx d=>h x ((e x).2 (by rw[aq c];exact .inr d));omega
  ·rw[ah c];have f:=DA k b λx d=>h x ((e x).2 (by rw[ah c];exact .inl d));have g:=DA r b λx d=>h x ((e x).2 (by rw[ah c];exact .inr d));omega
theorem XU{t:Nd}(h:Read t)(a:t.one.nr):t.QS:=by
 refine⟨by have:=h.size;omega,?_,a⟩;have:=DA t.one 20 λx b=>by have:=h.vars x b;omega
 rw[<-Nd.nz];omega
theorem It{X:CX}(h:iy X.m=true)(c:Fi X.m=true){l:List Nat}(g:X.l=cX l)(hc:∀f∈l,∀j,j<X.m.prog.sig.bj.length->fg X.m.prog f j=true->j∈l\/((X.types[j]?.getD default).ok/\(X.types[j]?.getD default).QS)):yM X:=by
 obtain⟨q,i,_⟩:=ec h;have key:∀F:Fo,cK X.m.prog.sig F=true->(∀j:Nat,j<X.m.prog.sig.bj.length->F.calls j=true->A5 X.C j/\CZ X.C j)->F.fns (λf=>A5 X.C f/\CZ X.C f):=by
  intro F
  induction F with
  |nil=>exact λ_ _=>trivial
  |cons a n k r G e=>
   intro b kH;unfold cK at b;simp only[ak]at b;refine⟨λm=> ?_,G b.1.2 λj d hc=>kH j d (by unfold Fo.calls;rw[hc];simp),e b.2 λj d hc=>kH j d (by unfold Fo.calls;rw[hc];simp)⟩;obtain⟨p,q⟩:=mV b.1.1 m;obtain⟨f,rfl⟩:∃f:Nat,n=f:=⟨n.toNat,by omega⟩;refine kH f (by omega) ?_;unfold Fo.calls;rcases m with rfl|rfl<;>simp
 have m:∀F:Fo,cK X.m.prog.sig F=true->(∀j:Nat,j<X.m.prog.sig.bj.length->F.calls j=true->A5 X.C j/\CZ X.C j)->F.low=true->jb X F:=λF b kH s=>by
  have:=key F b kH;exact⟨b,Fo.pw (λ_ h=>h.1) _ this,Fo.pw (λ_ h=>h.2) _ this,s⟩
 intro r hr;unfold qQ at hr;obtain⟨hr,e⟩:=List.mem_filter.1 hr;have hi:=mW i r hr;unfold Fi at c;have c:=aK.1 c r hr;rw[ak]at c;have o:=bh.1 e;rw[g]at o;obtain⟨f,u,Jh⟩:=ni o;constructor
 ·have v:∀F:Fo,(∀t∈F.list,dq X.m.prog.sig t=true/\ew iG t=true)->cK X.m.prog.sig F=true/\∀j,F.calls j=false:=by
   intro F
   induction F with
   |nil=>exact λ_=>⟨rfl,λ_=>rfl⟩
   |cons a n k r _ w=>
    intro p;obtain⟨r1,r2⟩:=w λt b=>p t (by unfold Fo.list;exact aS _ b);obtain⟨t1,t2⟩:=p ⟨a,n,k⟩ (by unfold Fo.list;exact aO);have G:=kD t1;unfold Nd.one cK at G;simp only[ak]at G;refine⟨by unfold cK;simp only[ak];exact⟨G.1,r1⟩,λj=> ?_⟩;have c1:=qZ (f:=j) (vz t2);unfold Nd.one Fo.calls at c1;unfold Fo.calls;simp only[Bool.or_eq_false_iff]at c1 |-;exact⟨c1.1,r2 j⟩
  obtain⟨G,p⟩:=v _ hi.bT;exact m _ G (λj _ hc=>by rw[p j]at hc;cases hc) c.1
 ·refine m _ (kD hi.rhs) (λj d kH=> ?_) c.2;have he:vh X.m.prog f j=true:=by
   exact aoi
  rcases hc f u j d (B3 i he)with G|G
  ·have:X.C.own j=true:=by show X.l.contains _=true;rw[g];exact bh.2 (vB.2 G)
   exact⟨.inl this,.inl this⟩
  ·exact⟨.inr G.1,.inr G⟩
theorem Pp{X:CX}(h:iy X.m=true)(a:X.types.length=X.m.prog.sig.bj.length):Ds X:=
 ⟨h,Hz (ec h).1 _ _,XT (ec h).1 _ _,a⟩
theorem BD(h:iy m=true):(kW m).length<=1000:=by
 have a:=(ec h).1;unfold dg at a;simp only[ak]at a;have hc:∀(l:List fV) (i:Nat),(dH l i).length=(l.map (·.cons.length)).sum:=λl=>by
  induction l with
  |nil=>intro i;rfl
  |cons d l b=>intro i;show(List.replicate d.cons.length i++dH l (i+1)).length=_;rw[az,cM,b];rfl
 have e:∀(l:List fV) (ns:List ByteArray) (c:Nat),pS m.bH ns c l=true->c<=12->c+(l.map (·.cons.length)).sum<=12:=λl=>by
  induction l with
  |nil=>intro ns c _ h;simpa using h
  |cons d l b=>
   intro ns c h _;rw[Ey]at h;simp only[ak,decide_eq_true_eq]at h;have:=b _ _ h.2 h.1.1.2;simp only[bz,List.sum_cons];omega
 have:=e m.bH [] 0 a.2 (by omega);unfold kW;rw[hc];omega
end
section
def Qd(ds:List fV)(a n:Int)(k:Nat):Prop:=a≠1/\dA ds 0 a n k=true
theorem tA{ds:List fV}:∀{F:Fo},ou (dA ds v) F=true->F.qok (Qd ds)
 | .nil,_=>trivial
 | .cons a n k r,h=>by
  unfold ou at h;simp only[ak]at h;refine⟨λe=>⟨e,?_⟩,tA h.1.2,tA h.2⟩;have:=h.1.1;unfold dA at this |-;rw[ah e]at this |-;exact this
theorem Mv{ds:List fV}{t:Nd}(h:dB ds v t=true):t.one.qok (Qd ds):=by
 unfold dB at h;simp only[ak]at h;exact tA (vz h.2)
theorem abn{R:Nat->Nat->Bool}{done:Nat->Bool}{gs:List (List Nat)}(h:tP R n done gs):(∀l∈gs,l.Nodup/\∀f∈l,f<n)/\∀k,k<n->done k=false->∃l∈gs,k∈l:=by
 induction h with
 |nil b=>exact⟨λl d=>(by cases d),λk c a=>by rw[b k c]at a;cases a⟩
 | @cons done l gs i eC j p _ e=>
  refine⟨λa d=> ?_,λk c b=> ?_⟩
  ·rcases aE.1 d with rfl|d
   ·exact⟨i,λf g=>(j f g).1⟩
   ·exact e.1 a d
  ·by_cases g:k∈l
   ·exact⟨l,aO,g⟩
   ·obtain⟨a,m,o⟩:=e.2 k c (by simp[b,g]);exact⟨a,aS _ m,o⟩
def afn:Nat->Gr->List Nat->Gr×List Nat
 |0,g,ps=>(g,ps)
 |k+1,g,ps=>afn k (g++[⟨-1,(ps.length:Nat),[],none⟩]) (ps++[g.length])
def Aw(P:Bool)(C:Kn)(l:List Int):Ck:=
 if P then(rZ iz (lf C) l gX []).1
 else(rZ (λg (_:Unit) x=>((g,()),(ny (afn 20 [] []).2 x).getD 0)) (lf C) l ⟨(afn 20 [] []).1,[],[]⟩ ()).1
def np(gs:List (List Nat))(f:Int):List Nat:=(gs.find? λl=>(cX l).contains f).getD []
theorem XV{gs:List (List Nat)}{f:Int}(h:∃l∈gs,f∈cX l):np gs f∈gs/\f∈cX (np gs f):=by
 obtain⟨l,a,b⟩:=h;unfold np;cases e:gs.find? λl=>(cX l).contains f with
 |none=>
  have:=List.find?_eq_none.1 e l a;exact ay (bh.2 b) this
 |some d=>
  have c:=List.find?_some e;exact⟨List.mem_of_find?_eq_some e,bh.1 c⟩
def Mw(P:Bool)(m:Md)(types:List Nd)(l:List Nat)(r:oN):Bool:=(OQ P (kn m types (cX l)) r (Aw P (kn m types (cX l)) (cX l))).isSome
def XW(P:Bool)(m:Md)(types:List Nd):Option Nat:=m.prog.rules.findIdx? λr=> !Mw P m types (np (eA m.prog) r.fn) r
theorem abo(h:iy m=true){types:List Nd}(e:∀j,j<m.prog.sig.bj.length->(types[j]?.getD default).ok)(a:r∈m.prog.rules):
 CC (kn m types (cX (np (eA m.prog) r.fn))) m (cX (np (eA m.prog) r.fn))/\r∈qQ m (cX (np (eA m.prog) r.fn))/\np (eA m.prog) r.fn∈eA m.prog/\∀f∈np (eA m.prog) r.fn,f<m.prog.sig.bj.length:=by
 have c:=abn (yt (ec h).2.1);have hi:=mW (ec h).2.1 r a;obtain⟨k,g⟩:∃k:Nat,r.fn=k:=⟨r.fn.toNat,by have:=hi.fn;omega⟩;have i:k<m.prog.sig.bj.length:=by have:=hi.fn;omega
 obtain⟨l,n,b⟩:=c.2 k i rfl;obtain⟨d,o⟩:=XV (gs:=eA m.prog) (f:=r.fn) ⟨l,n,by rw[g];exact vB.2 b⟩;obtain⟨p,q⟩:=c.1 _ d;refine⟨QN h p λf t j s a=>.inr (e j s),?_,d,q⟩;unfold qQ;exact List.mem_filter.2 ⟨a,bh.2 o⟩
end
section
open Go Go.RowKit
attribute [local go_sem] aT cW df
theorem DB(ds:List fV):xy ds ds.length=uo ds:=by unfold xy uo;rw[bE]
theorem Tp(ds:List fV)(dv:Value)(w:World)(B:Nat)(g:eB w B dv ds)(hB:B<=w.heap.size)(b:(fX (ds.length:Int) 1 6&&decide (uo ds<=12)&&ds.all gM)=false):
 aH Tryz.prog 129 #[dv] w (.bool false):=by
 have i:=hI g;have s:=g.small;obtain⟨j,dc,rfl⟩:=g.slice;have G:=Below.cA w (.cells #[.slice j ds.length dc] 22);obtain⟨m,kV,c,f⟩:=h_4 (a_ w (.cells #[.slice j ds.length dc] 22)) G hB (NX (ds.length:Int) 1 6 (w.alloc (.cells #[.slice j ds.length dc] 22)));clear g G hB;unfold aH;cases c1:fX (ds.length:Int) 1 6 with
 |false=>
  rw[c1]at f;clear c1 b
  go_enter Tryz.func129,Tryz.ntmps129
  go_wp2_with fail
  refine f.o.mono ?_;exact anu
 |true=>
  rw[c1]at f b;have G:ds.length<=6:=by unfold fX at c1;simp at c1;omega
  have n:=hI G;clear c1 G;by_cases c2:uo ds<=12
  case neg=>
   have d2:decide ((12:Int)<((xy ds ds.length:Nat):Int))=true:=by rw[DB];simp;omega
   clear b c2
   go_enter Tryz.func129,Tryz.ntmps129
   go_wp2_with fail
   refine f.o.mono ?_;rintro e w2 ⟨rfl,hb⟩;have d:=cY hb m.o;have k:=cZ d;have z2:=af k;have a:=ag kV.o hb lR;have l:=hI (mZ ds _ w2 B (i.o.below a c.o) (ai c.o a.size) n.o);have cR:=hI a;clear hb d a
   go_wp2_with fail
   refine l.o.mono ?_;exact anv
  case pos=>
   have d2:decide ((12:Int)<((xy ds ds.length:Nat):Int))=false:=by rw[DB];simp;omega
   have G:ds.all gM=false:=by rw[aI c2]at b;simpa using b
   have p:=hI G;clear b c2 G
   go_enter Tryz.func129,Tryz.ntmps129
   go_wp2_with fail
   refine f.o.mono ?_;rintro e w2 ⟨rfl,hb⟩;have d:=cY hb m.o;have k:=cZ d;have z2:=af k;have a:=ag kV.o hb lR;obtain⟨l,cR,q⟩:=h_3 (mZ ds _ w2 B (i.o.below a c.o) (ai c.o a.size) n.o) a d;clear hb d a
   go_wp2_with fail
   refine l.o.mono ?_;rintro e w3 ⟨rfl,hb⟩;have G:=cY hb q.o;have r:=cZ G;have z3:=af r;have a:=ag cR.o hb lR;have o:=hI (Ai ds _ w3 B (i.o.below a c.o) (ai c.o a.size));rw[p.o]at o;have fT:=hI a;clear hb G a
   go_wp2_with fail
   refine o.o.mono ?_;rintro e t ⟨rfl,hb⟩;have G:=hI (ag fT.o hb lR);clear hb;go_wp2;go_ret;exact⟨rfl,G.o⟩
end
section
open Go Go.RowKit Go.Sort
attribute [local go_sem] aT cW df
structure nT (w:World) (mb:Nat) (l:List ByteArray):Prop where
 map:∃M,wP U2 w mb M/\(∀x,x∈M.map (·.1)↔x∈l)/\M.length<=l.length/\(M.length=l.length↔l.Nodup)
theorem nT.start{mb:Nat}(h:w.heap[mb]? =some (.map #[] 0)):nT w mb []:=⟨[],⟨#[],0,h,by simp,by simp,by simp⟩,by simp,by simp,by simp⟩
theorem nT.same{mb:Nat}(h:nT w mb l)(a:∀o,w.heap[mb]? =some o->w'.heap[mb]? =some o):nT w' mb l:=by
 obtain⟨M,b,c⟩:=h.map;exact⟨M,b.same a,c⟩
theorem nT.lt{mb:Nat}(h:nT w mb l):mb<w.heap.size:=by obtain⟨M,a,_⟩:=h.map;exact a.lt
theorem nT.below{mb:Nat}(h:nT w mb l)(a:Below w.heap.size w w'):nT w' mb l:=h.same λo b=>cY a b
theorem nT.add{mb:Nat}(h:nT w mb l)(s:ByteArray):
 ∃o,(Instr.mapUpdate 229 (.map (some mb)) (.string s) (.bool true)).run Tryz.prog w=.ok () (w.putObj mb o)/\nT (w.putObj mb o) mb (l++[s]):=by
 obtain⟨M,m,d,t,i⟩:=h.map;obtain⟨o,n,p,_⟩:=KI (T:=229) (et:=4) (P:=Tryz.prog) Tryz.underlying229 I4 m s (.bool true);have j:=Bb M s (.bool true);have f:((zM M s (.bool true)).map (·.1)).length=(zM M s (.bool true)).length:=aW _;rw[j]at f;refine⟨o,n,_,p,λx=> ?_,?_⟩
 ·rw[j];by_cases c:s∈l
  ·rw[aq ((d s).2 c),d,aQ,aJ];exact⟨.inl,λh=>h.elim id λe=>e ▸ c⟩
  ·rw[ah (λh=>c ((d s).1 h)),aQ,aQ,d]
 ·rw[az,aY,List.nodup_append];by_cases c:s∈l
  ·rw[aq ((d s).2 c),aW]at f;refine⟨by omega,λe=>by omega,?_⟩;rintro⟨_,_,g⟩;exact ay rfl (g s c s (by simp))
  ·rw[ah (λh=>c ((d s).1 h)),az,aW,aY]at f;refine⟨by omega,λe=>⟨i.1 (by omega),by simp,λa q b k r=>c (by rw[aJ]at k;rw[<-k,<-r];exact q)⟩,?_⟩;rintro⟨g,_,_⟩;have:=i.2 g;omega
theorem Fw:vg.toList=[66,111,111,108]:=by decide +kernel
theorem kR{a:Act}{o:Oper}{K:Act->Prop}(x:Operand){mb d:Nat}{es:Array MapEntry}(i:o.op=.call { callee:=.builtin .len,args:= #[x],argTypes:= #[229]})(c:a.eval x=.map (some mb))
 (j:W.heap[mb]? =some (.map es d)) (h:K (a.put o.dst (.int .i64 ((es.size:Nat):Int)))):o.quiet Tryz.prog a (λw'=>∃p:Regrown,w'=grow (redrawn W p.d) p.os) K:=by
 refine⟨_,λw hw=> ?_,h⟩;obtain⟨p,rfl⟩:=hw;have k:(grow (redrawn W p.d) p.os).heap[mb]? =some (.map es d):=cY (below_regrown W p.d p.os) j;have e:∀ty,(Builtin.len_ #[229] ty #[.map (some mb)]).run Tryz.prog (grow (redrawn W p.d) p.os)=.ok (goInt es.size) (grow (redrawn W p.d) p.os):=λty=>run_len_map (P:=Tryz.prog) _ 229 ty mb es d (by kernel_rfl) k;unfold Oper.quietAt execOp;simp only[i];cases x with
 |tmp t=>
  have b:a.tmps[t]?.getD undef=.map (some mb):=by rw[<-c];simp[Act.eval]
  go_simp
  all_goals (rw[b,e];exact⟨rfl,rfl⟩)
 |const v=>
  have b:v=.map (some mb):=by rw[<-c];simp[Act.eval]
  go_simp
  all_goals (rw[b,e];exact⟨rfl,rfl⟩)
 |global g=>simp[Act.eval]at c
 |func f=>simp[Act.eval]at c
theorem yN(ds:List fV)(dv:Value)(w:World)(B:Nat)(f:eB w B dv ds)(hB:B<=w.heap.size):
 aH Tryz.prog 129 #[dv] w (.bool (dg ds)):=by
 rw[<-q_];cases A:(fX (ds.length:Int) 1 6&&decide (uo ds<=12)&&ds.all gM)with
 |false=>
  have e:oT ds=false:=by unfold oT;rw[A];rfl
  rw[e];exact Tp ds dv w B f hB A
 |true=>
  have e:oT ds=(ds.all (λd=>d.cons.all (Ah ds d.params))&&(decide (ds.map (·.name)).Nodup&&Ex (b8 ds 0))):=by unfold oT;rw[A];rfl
  rw[e];simp only[ak,decide_eq_true_eq]at A;obtain⟨⟨c1,c2⟩,c3⟩:=A;have c:1<=ds.length/\ds.length<=6:=by unfold fX at c1;simp at c1;omega
  obtain⟨R,G⟩:=xE (ds.all (λd=>d.cons.all (Ah ds d.params))&&(decide (ds.map (·.name)).Nodup&&Ex (b8 ds 0)));rw[<-G];have P:=hI G;have C:=hI f;have RA:=f.small;obtain⟨y,dc,rfl⟩:=f.slice;have u:=Below.cA w (.cells #[.slice y ds.length dc] 22);obtain⟨HN,kV,g,V⟩:=h_4 (a_ w (.cells #[.slice y ds.length dc] 22)) u hB (NX (ds.length:Int) 1 6 (w.alloc (.cells #[.slice y ds.length dc] 22)));rw[c1]at V;have d2:decide ((12:Int)<((xy ds ds.length:Nat):Int))=false:=by rw[DB];simp;omega
  have G_:=hI c3;have Q:=hI c;clear f u hB c1 c2 c3 G e c;unfold aH;have I:= @run_makeMap Tryz.prog;have EL:∀(fn:Fn) (first cap:Array Value) (w:World),(Instr.makeFunc fn first cap).run Tryz.prog w=.ok (.func fn first cap) w:=λ_ _ _ _=>rfl
  go_enter Tryz.func129,Tryz.ntmps129
  go_wp2_with fail
  refine V.o.mono ?_;rintro e w2 ⟨rfl,G⟩;have c:=cY G HN.o;have v:=cZ c;have z2:=af v;have a:=ag kV.o G lR;obtain⟨s,E,F⟩:=h_3 (mZ ds _ w2 B (C.o.below a g.o) (ai g.o a.size) Q.o.2) a c;clear G c a
  go_wp2_with fail
  refine s.o.mono ?_;rintro e w3 ⟨rfl,G⟩;have c:=cY G F.o;have x:=cZ c;have z3:=af x;have a:=ag E.o G lR;have u:=hI (Ai ds _ w3 B (C.o.below a g.o) (ai g.o a.size));rw[G_.o]at u;have H:=hI a;have j:=hI c;clear G c a
  go_wp2_with fail
  refine u.o.mono ?_;rintro e L ⟨rfl,G⟩;have m:=hI (ag H.o G lR);have c:=hI (bQ j.o G z3);have l:=cZ c.o;have z4:=af l;clear G v z2 x z3 d2
  go_upto_region 7 with fail
  obtain⟨mb,G⟩:=xE L.heap.size;have r:Hd (nT (L.alloc (.map #[] 0)) mb []):=hI (nT.start (by rw[G];exact a_ _ _));have n:Hd (Below w.heap.size w (L.alloc (.map #[] 0))):=hI (ag m.o (Below.cA _ _) lR);have S:Hd (w.heap.size<mb):=hI (by rw[G];exact z4);have q:Hd ((L.alloc (.map #[] 0)).heap[w.heap.size]? =some (.cells #[.slice y ds.length dc] 22 (0,0))):=hI (bQ c.o (Below.cA _ _) z4);rw[<-G];clear G l z4;refine eR (λY=>nT Y mb []/\Below w.heap.size w Y/\Y.heap[w.heap.size]? =some (.cells #[.slice y ds.length dc] 22 (0,0))) ⟨r.o,n.o,q.o⟩ ?_;clear r n q E H m F j c s u V I;rintro w5 ⟨t,z,v⟩;have l:=cZ v;have z4:=af l;obtain⟨H1,H2,H3⟩:=h_3 t z v;clear t z v;obtain⟨T,x⟩:=xE (decide (ds.map (·.name)).Nodup&&Ex (b8 ds 0));have U:=hI x;rw[<-x]at P;clear x;go_wp2;clear l z4
  go_loopw [25] (λi wr=>∃k:Nat,k<=ds.length/\i=.int .i64 k/\nT wr mb ((ds.take k).map (·.name))/\Below w.heap.size w wr/\wr.heap[w.heap.size]? =some (.cells #[.slice y ds.length dc] 22 (0,0))/\((ds.drop k).all (λd=>d.cons.all (Ah ds d.params))&&T)=R) (λi _=>ds.length-(intOf i).toNat)
  case atStart=>exact⟨0,aw _,rfl,H1.o,H2.o,H3.o,by rw[List.drop_zero];exact P.o.symm⟩
  case round=>
   obtain⟨k,hk,rfl,z,a,N,D⟩:=hrel;obtain⟨j,E8⟩:=xE wr;subst E8;by_cases t:k<ds.length
   ·obtain⟨b,off,cap,p,m,W,fF,d0,d1,d2,q,X⟩:=iR C.o (a.mono g.o) t;cases W;have zd:=af d0;obtain⟨d,f⟩:=xE (b8 ds k);have OX:ds.drop k=d::ds.drop (k+1):=by rw[bI t,f];unfold b8;rw[ae t];rfl
    have GZ:(ds.take (k+1)).map (·.name)=(ds.take k).map (·.name)++[d.name]:=by rw[aV t,bA,f];unfold b8;rw[ae t];rfl
    rw[<-f]at d0 d1 d2 q;have om:(k:Int)<(ds.length:Int):=by omega
    obtain⟨n,M_⟩:=qS j (.cells #[.string d.name,.int .i64 d.params,.slice p d.cons.length m] 186);obtain⟨o,eo,u⟩:=(z.below n).add d.name;obtain⟨V,c⟩:=xE ((j.alloc (.cells #[.string d.name,.int .i64 d.params,.slice p d.cons.length m] 186)).putObj mb o);have Z:V.heap.size=j.heap.size+1:=by rw[c];simp
    have al6:=z.lt;have v:V.heap[j.heap.size]? =some (.cells #[.string d.name,.int .i64 d.params,.slice p d.cons.length m] 186 (0,0)):=by rw[c];exact(aA (by omega)).trans M_
    have x:V.heap[w.heap.size]? =some (.cells #[.slice (some ⟨b,off,none⟩) ds.length dc] 22 (0,0)):=by
     rw[c];exact(aA (by have:=S.o;omega)).trans (cY n N)
    have E:Below w.heap.size w V:=by rw[c];exact dI (ag a n lR) (bt S.o) o
    rw[<-c]at u;obtain⟨G,Ct⟩:=qS V (.cells #[.func (.func 181) #[] #[.pointer (some ⟨w.heap.size,0,none⟩),.pointer (some ⟨j.heap.size,0,none⟩)]] 80);have F:Below B j V:=by rw[c];exact dI (n.mono (ai g.o a.size)) (ai g.o (bt S.o)) o
    have H:=(q.below F lR).below G (ai g.o E.size);have I:=C.o.below ((ag E G lR).mono g.o) lR;have hc:=L5 ds d.params d.cons (.slice p d.cons.length m) (.slice (some ⟨b,off,none⟩) ds.length dc) (.slice p d.cons.length m) (.string d.name) w.heap.size j.heap.size V.heap.size _ B I H (ai g.o (ai E.size G.size)) (cY G x) (cY G v) Ct;rw[Z]at hc;have J:=cY G v;have K:=cY G x;obtain⟨s,r,yV,H7X,H72,wS,dL⟩:=h_7 hc (u.below G) (ag E G lR) K J GZ t;have O:Hd ((d.cons.all (Ah ds d.params)&&((ds.drop (k+1)).all (λd=>d.cons.all (Ah ds d.params))&&T))=R):=hI (by rw[<-D,OX,List.all_cons,Bool.and_assoc]);have HW6:=hI c;clear z a N D OX GZ f q n M_ u c v x E G Ct F H I hc J K t X
    go_upto_region 11 with fail
    rw[<-HW6.o]
    go_upto_region 12 with fail
    have x:(V.alloc (.cells #[.func (.func 181) #[] #[.pointer (some ⟨w.heap.size,0,none⟩),.pointer (some ⟨j.heap.size,0,none⟩)]] 80)).cell? ⟨j.heap.size,2,none⟩=some (.slice p d.cons.length m):=by rw[cell_of_row _ _ _ _ _ _ H72.o];rfl
    have I:=af x;unfold aH at s;cases G:d.cons.all (Ah ds d.params)with
    |false=>
     rw[G]at s O;obtain rfl:false=R:=O.o;clear G
     go_wp2_with fail
     refine s.o.mono ?_;rintro e E ⟨rfl,c⟩;have kG:=hI (ag yV.o c lR);clear c;go_wp2;go_ret;exact⟨rfl,kG.o⟩
    |true=>
     rw[G,aU]at O;rw[G]at s;clear G
     go_wp2_with fail
     refine s.o.mono ?_;rintro e E ⟨rfl,c⟩;obtain⟨kG,u,v⟩:=h_3 (ag yV.o c lR) (r.o.below c) (cY c H7X.o);clear c;go_wp2
     go_roundw
     case rel=>exact⟨k+1,dL.o,by go_num,by rw[wS.o];exact u.o,kG.o,v.o,O.o⟩
     case measure=>have:=dL.o;simp[intOf];omega
   ·obtain rfl:k=ds.length:=by omega
    rw[List.drop_length]at D;obtain rfl:T=R:=by rw[<-D];rfl
    rw[bE]at z;obtain⟨b,off,cap,p,m,W,fF,d0,d1,d2,q,X⟩:=iR C.o (a.mono g.o) (k:=0) (by have:=Q.o.1;omega);cases W;simp only[Nat.zero_mul,Nat.add_zero]at d0 d1 d2;have zd:=af d0;have l:=cZ N;have z4:=af l;have K:(0:Int)<(ds.length:Int):=by have:=Q.o.1;omega
    obtain⟨d,f⟩:=xE (b8 ds 0);rw[<-f]at d0 d1 d2 q;obtain⟨M,⟨es,O,Nl,G,_⟩,_,J,V⟩:=z.map;have c:es.size=M.length:=by have:=congrArg List.length G;simpa using this
    have n:=Below.cA j (.cells #[.string d.name,.int .i64 d.params,.slice p d.cons.length m] 186);obtain⟨I,u,ir,v,x,E,F,H⟩:=h_8 (a_ j (.cells #[.string d.name,.int .i64 d.params,.slice p d.cons.length m] 186)) (cY n Nl) (ag a n lR) ((n.cell (p:=⟨w.heap.size,0,none⟩) z4).trans l) (q.below n (ai g.o a.size)) V c f;clear z a N n Nl G V c f q J D P X
    go_upto_region 16 with fail
    refine eR (λY=>Y.heap[j.heap.size]? =some (.cells #[.string d.name,.int .i64 d.params,.slice p d.cons.length m] 186 (0,0))/\Y.heap[mb]? =some (.map es O)/\Below w.heap.size w Y/\Y.cell? ⟨w.heap.size,0,none⟩=some (.slice (some ⟨b,off,none⟩) ds.length dc)/\lS Y B (.slice p d.cons.length m) d.cons) ⟨I.o,u.o,ir.o,v.o,x.o⟩ ?_;clear I u ir v x l z4 d0 d1 d2 zd;rintro Y ⟨hy,Nl,a,l,q⟩;have Z:=cZ hy;have y1:=eY hy;have y2:=fu hy;have zy:=af Z;have z4:=af l;have ir:=hI a;have x:=hI q;clear hy a q;have J:(((es.size:Nat):Int)==((ds.length:Nat):Int))=decide (ds.map (·.name)).Nodup:=by
     rw[aP,b_,decide_eq_true_eq,<-E.o,aW,F.o];omega
    have V:Ex (b8 ds 0)=(decide (d.name=vg)&&d.params==0&&d.cons.length==2&&(dD d.cons 0).len+(dD d.cons 1).len==0):=by rw[<-H.o];rfl
    have G:=U.o;rw[V]at G;have c:=hI G;clear V G;cases c1:decide (ds.map (·.name)).Nodup with
    |false=>
     rw[c1]at J c;have Hg:T=false:=c.o;clear c1;exact ams
    |true=>
     rw[c1]at J c;clear c1;by_cases c2:d.name=vg
     ·have g2:(d.name==vg)=true:=by rw[bytes_beq,aI c2]
      have u:(d.name.toList==[66,111,111,108])=true:=by have:=sL d.name vg;rw[aI c2,Fw]at this;exact this
      rw[aI c2,aU,aU]at c;clear g2 c2;cases c3:(d.params==0)with
      |false=>
       rw[c3]at c;have Hg:T=false:=c.o;exact ams
      |true=>
       rw[c3,aU]at c;by_cases c4:d.cons.length=2
       ·obtain⟨fb,fo,NT,fp,Zg,v,uF,f0,Ka⟩:=mq x.o bR (k:=0) (by omega);obtain⟨gb,go,I,gp,gpc,D6,Zb,f1,Ez⟩:=mq x.o bR (k:=1) (by omega);cases v;cases D6;simp only[Nat.add_zero]at f0;have zf:=af f0;have g4:(((d.cons.length:Nat):Int)==2)=true:=by rw[c4];rfl
        have AI:(d.cons.length==2)=true:=by rw[c4];rfl
        rw[AI,aU]at c;have l0I:(0:Int)<((d.cons.length:Nat):Int):=by omega
        have l1I:(1:Int)<((d.cons.length:Nat):Int):=by omega
        have s0:=Ka.small;have s1:=Ez.small;have hw:IntKind.i64.wrap (((dD d.cons 0).len:Int)+((dD d.cons 1).len:Int))=(((dD d.cons 0).len+(dD d.cons 1).len:Nat):Int):=by
         rw[IntWalk.i64_in _ (by omega)];push_cast;first|done|rfl
        cases c5:((dD d.cons 0).len+(dD d.cons 1).len==0)with
        |false=>
         rw[c5]at c;have Hg:T=false:=c.o;have g5:((((dD d.cons 0).len+(dD d.cons 1).len:Nat):Int)==0)=false:=by rw[cW];exact c5
         exact aoq
        |true=>
         rw[c5]at c;have Hg:T=true:=c.o;have g5:((((dD d.cons 0).len+(dD d.cons 1).len:Nat):Int)==0)=true:=by rw[cW];exact c5
         exact aoq
       ·have AI:(d.cons.length==2)=false:=by simpa using c4
        rw[AI]at c;have Hg:T=false:=by rw[c.o];rfl
        have g4:(((d.cons.length:Nat):Int)==2)=false:=by rw[b5];intro h;rw[b_]at h;omega
        clear c4;exact ams
     ·have Hg:T=false:=by rw[c.o,aB c2];rfl
      have g2:(d.name==vg)=false:=by rw[b5];intro h;rw[bytes_beq,decide_eq_true_eq]at h;exact c2 h
      have u:(d.name.toList==[66,111,111,108])=false:=by have:=sL d.name vg;rw[aB c2,Fw]at this;exact this
      clear g2 c2;exact ams
theorem Fx(ds:List fV)(dv:Value)(w:World)(B:Nat)(c:eB w B dv ds)(hB:B<=w.heap.size):
 aH Tryz.prog 52 #[dv] w (.int .i64 (if dg ds then 0 else 2)):=by
 have a:=hI (yN ds dv w B c hB);unfold aH at a;generalize dg ds=b at a |-;clear c hB;cases b
 all_goals
  simp only[bF,if_false,if_true];unfold aH
  go_enter Tryz.func52,Tryz.ntmps52
  go_wp2_with fail
  refine a.o.mono ?_;rintro e f ⟨rfl,d⟩;have g:=hI d;clear d
  go_wp2_with fail
  refine(zZ _ f).mono ?_;rintro e d ⟨rfl,Us⟩;rw[Us];clear Us;go_wp2;go_ret;exact⟨rfl,g.o⟩
theorem pf(ds:List fV)(t:Nd)(dv tv:Value)(w:World)(B:Nat)(g:eB w B dv ds)(r:cV w B tv t)(hB:B<=w.heap.size):
 aH Tryz.prog 53 #[dv,tv] w (.int .i64 (if dg ds&&dB ds 20 t then 0 else 2)):=by
 obtain⟨sv,rfl,f⟩:=r;obtain⟨m,sc,rfl⟩:=f.slice;obtain⟨a,k⟩:=qS w (.cells #[.int .i64 t.a,.int .i64 t.n,.slice m t.k.len sc] 26);have d:=hI (yN ds dv _ w.heap.size ((g.mono hB).below a lR) a.size);have i:Hd (∀V,Below w.heap.size w V->aH Tryz.prog 130 #[dv,.agg #[.int .i64 t.a,.int .i64 t.n,.slice m t.k.len sc]] V (.bool (dB ds 20 t))):=hI λV j=>
  Hf ds t dv _ V w.heap.size ((g.mono hB).below j lR) ⟨_,rfl,(f.mono hB).below j lR⟩ j.size
 have n:=hI a;have s:=hI k;unfold aH at d i;generalize dg ds=b at d |-;generalize dB ds 20 t=c at i |-;clear g hB f a k;cases b with
 |false=>
  simp only[Bool.false_and,bF,if_false];unfold aH
  go_enter Tryz.func53,Tryz.ntmps53
  go_wp2_with fail
  refine d.o.mono ?_;rintro e k ⟨rfl,a⟩;have l:=hI (ag n.o a lR);clear a
  go_wp2_with fail
  refine(zZ _ k).mono ?_;rintro e o ⟨rfl,Us⟩;rw[Us];clear Us;go_wp2;go_ret;exact⟨rfl,l.o⟩
 |true=>
  cases c
  all_goals
   simp only[aU,bF,if_false,if_true];unfold aH
   go_enter Tryz.func53,Tryz.ntmps53
   go_wp2_with fail
   refine d.o.mono ?_;rintro e k ⟨rfl,a⟩;have f:=cY a s.o;have p:=cZ f;have u:=eY f;have v:=fu f;have x:=af p;have q:=hI (ag n.o a lR);have y:=hI (i.o k q.o);clear a f
   go_wp2_with fail
   refine y.o.mono ?_;rintro e o ⟨rfl,f⟩;have l:=hI (ag q.o f lR);clear f p u v x
   go_wp2_with fail
   refine(zZ _ o).mono ?_;rintro e p ⟨rfl,f⟩;rw[f];clear f;go_wp2;go_ret;exact⟨rfl,l.o⟩
attribute [local go_sem] Db jT kK mh vX zF
theorem tB(h:k<64):IntKind.u64.wrap (2^k)=((og k:Nat):Int):=by
 have a:(2:Int)^k=((2^k:Nat):Int):=by push_cast;rfl
 rw[a];unfold og;have b:2^k<2^64:=Nat.pow_lt_pow_right (by decide) h;generalize 2^k=P at b;exact IntWalk.u64_in _ (by omega)
def Ay(a n:Int):Nat:=if a=4\/a=5 then og n.toNat else 0
def lV:Fo->Nat->Nat
 | .nil,m=>m
 | .cons a n k r,m=>lV r (wO m (lV k (Ay a n)))
def nU(t:Nd):Nat:=lV t.k (Ay t.a t.n)
def kS(F:Fo):Prop:=F.fns λf=>0<=f/\f<64
theorem BE:∀{F:Fo} (m i:Nat),kS F->(lV F m).testBit i=(m.testBit i||F.calls i)
 | .nil,m,i,_=>by simp[lV,Fo.calls]
 | .cons a n k r,m,i,h=>by
  show(lV r (wO m (lV k (Ay a n)))).testBit i=_;rw[BE (F:=r) _ _ h.2.2,jw,BE (F:=k) _ _ h.2.1];have d:(Ay a n).testBit i=((a==4||a==5)&&n==(i:Int)):=by
   unfold Ay;by_cases b:a=4\/a=5
   ·have f:=h.1 b;rw[aq b,sF];have c:(a==4||a==5)=true:=by rcases b with e|e<;>simp[e]
    rw[c,aU,aP,decide_eq_true_eq,b_];omega
   ·rw[ah b,Nat.zero_testBit];have c:(a==4||a==5)=false:=by
     rw[b5];intro hc;rw[b7,b_,b_]at hc;exact b hc
    rw[c];rfl
  rw[d];show(m.testBit i||((a==4||a==5)&&n==(i:Int)||k.calls i)||r.calls i)=(m.testBit i||(((a==4||a==5)&&n==(i:Int))||k.calls i||r.calls i));cases m.testBit i<;>simp
theorem vK{a n:Int}(h:a=4\/a=5->0<=n/\n<64):py (Ay a n):=by
 unfold Ay;by_cases b:a=4\/a=5
 ·rw[aq b];have:=h b;exact py.bit (by omega)
 ·rw[ah b];show(0:Nat)<_;decide
theorem r_:∀{F:Fo} (m:Nat),kS F->py m->py (lV F m)
 | .nil,m,_,hm=>hm
 | .cons a n k r,m,h,hm=>r_ (F:=r) _ h.2.2 (hm.or (r_ (F:=k) _ h.2.1 (vK h.1)))
theorem kS.at:∀{F:Fo} {i:Nat},kS F->i<F.len->kS (F.at i).one
 | .nil,i,_,hi=>ay hi (ax _)
 | .cons a n k r,0,h,_=>⟨h.1,h.2.1,trivial⟩
 | .cons a n k r,i+1,h,hi=>kS.at (F:=r) h.2.2 (Nat.lt_of_succ_lt_succ hi)
theorem tC:∀{F:Fo} {i:Nat} (m:Nat),i<F.len->lV (F.drop i) m=lV (F.drop (i+1)) (wO m (nU (F.at i)))
 | .nil,i,_,hi=>ay hi (ax _)
 | .cons a n k r,0,m,_=>by rw[Fo.drop_zero];show lV r _=lV (r.drop 0) _;rw[Fo.drop_zero];rfl
 | .cons a n k r,i+1,m,hi=>tC (F:=r) m (Nat.lt_of_succ_lt_succ hi)
theorem Fy:∀(z:Nat) (t:Nd),t.size<=z->kS t.one->∀(v:Value) (w:World) (B:Nat),cV w B v t->B<=w.heap.size->aH Tryz.prog 201 #[v] w (.int .u64 (nU t:Nat))
 |0,t,l,_,_,_,_,_,_=>ay l (by unfold Nd.size;omega)
 |z+1,t,l,hc,v,w,B,s,hB=>by
  obtain⟨sv,rfl,p⟩:=s;obtain⟨r,sc,rfl⟩:=p.slice;have y:=p.small;obtain⟨x,G⟩:=qS w (.cells #[.int .i64 t.a,.int .i64 t.n,.slice r t.k.len sc] 54);have b:∀i,i<t.k.len->∀(v:Value) (w:World) (B:Nat),cV w B v (t.k.at i)->B<=w.heap.size->aH Tryz.prog 201 #[v] w (.int .u64 (nU (t.k.at i):Nat)):=λi hi=>
   Fy z (t.k.at i) (by have:=Fo.y8 t.k _ (Fo.at_mem hi);have e:t.size=1+t.k.size:=rfl;omega) (kS.at (F:=t.k) hc.2.1 hi)
  have e:∀i,i<t.k.len->py (nU (t.k.at i)):=λi hi=>r_ _ (kS.at (F:=t.k) hc.2.1 hi).2.1 (vK (kS.at (F:=t.k) hc.2.1 hi).1);have k:=vK hc.1;have m:(t.a=4\/t.a=5)->∃n:Nat,t.n=(n:Int)/\n<64:=λh=>⟨t.n.toNat,by have:=hc.1 h;omega,by have:=hc.1 h;omega⟩;obtain⟨w1,a⟩:=xE (w.alloc (.cells #[.int .i64 t.a,.int .i64 t.n,.slice r t.k.len sc] 54));rw[<-a]at x G;obtain⟨kV,o,QI,HUK,HUO,HS,u,HB⟩:=h_8 x G b e k p a hB;obtain⟨M,c⟩:=xE (nU t);have HM:Hd (lV t.k (Ay t.a t.n)=M):=hI c.symm;rw[<-c];clear x G b e k p hB hc l c;unfold aH
  go_enter Tryz.func201,Tryz.ntmps201
  go_upto_region 1 with fail
  rw[<-u.o];clear a;have x0:=cZ o.o;have x1:=eY o.o;have x2:=fu o.o;have zx:=af x0;have j:=hI m;clear m;by_cases c:t.a=4
  ·obtain⟨n,d,f⟩:=j.o (.inl c);have a:Ay t.a t.n=og n:=by unfold Ay;rw[aq (.inl c),d];rfl
   rw[a]at HM HUO;have q:=tB f;rw[d]at x1;rw[c]at x0;clear a c d;exact amm
  ·by_cases g:t.a=5
   ·obtain⟨n,d,f⟩:=j.o (.inr g);have a:Ay t.a t.n=og n:=by unfold Ay;rw[aq (.inr g),d];rfl
    rw[a]at HM HUO;have q:=tB f;rw[d]at x1;rw[g]at x0;clear a c g d;exact amm
   ·have a:Ay t.a t.n=0:=by unfold Ay;rw[ah (by omega)]
    rw[a]at HM HUO;have g4:(t.a==4)=false:=by simpa using c
    have g5:(t.a==5)=false:=by simpa using g
    clear a c g;exact amm
end
section
open Go Go.RowKit
def iY(f:List Nat)(i:Nat):Nat:=f[i]?.getD 0
def mD(f:List Nat)(i j:Nat):Bool:=(iY f i).testBit j
theorem JL(f:List Nat)(i x a:Nat)(hi:i<f.length):iY (f.set i x) a=if a=i then x else iY f a:=by
 unfold iY;rw[List.getElem?_set];by_cases h:i=a
 ·subst h;rw[aq rfl,aq hi,aq rfl];rfl
 ·rw[ah h,ah (λe=>h e.symm)]
theorem DC(h:f.length<=i):iY f i=0:=by unfold iY;rw[List.getElem?_eq_none h];rfl
theorem Az{a b:List Nat}(d:a.length=b.length)(h:∀i,i<a.length->iY a i=iY b i):a=b:=by
 apply List.ext_getElem d;intro i c e;have:=h i c;unfold iY at this;rwa [ae c,ae e]at this
structure Mx (p:Pg) (k:Nat) (f:List Nat):Prop where
 len:f.length=8
 bit:∀i j,i<8->mD f i j=(p.rules.take k).any λr=>r.fn==(i:Int)&&r.rhs.one.calls j
 u64:∀i,py (iY f i)
theorem Mx.zero(p:Pg):Mx p 0 (List.replicate 8 0):=⟨by simp,λi j hi=>by
 unfold mD iY;rw[List.getElem?_replicate,aq hi];simp,λi=>by
 unfold iY;rw[List.getElem?_replicate]
 split<;>(show(0:Nat)<_;decide)⟩
theorem Mx.step(h:Mx p k f)(c:k<p.rules.length)(g:(cQ p.rules k).fn=(n:Int))(a:n<8)(hc:kS (cQ p.rules k).rhs.one):Mx p (k+1) (f.set n (wO (iY f n) (nU (cQ p.rules k).rhs))):=by
 have hu:py (nU (cQ p.rules k).rhs):=r_ _ hc.2.1 (vK hc.1);have e:cQ p.rules k=p.rules[k]:=by unfold cQ;rw[ae c];rfl
 refine⟨by rw[List.length_set];exact h.len,λi j hi=> ?_,λi=> ?_⟩
 ·have b:(nU (cQ p.rules k).rhs).testBit j=(cQ p.rules k).rhs.one.calls j:=by
   have d:=BE (F:=(cQ p.rules k).rhs.one) 0 j hc;have l:lV (cQ p.rules k).rhs.one 0=wO 0 (nU (cQ p.rules k).rhs):=rfl;rw[l,jw,Nat.zero_testBit,Bool.false_or,Bool.false_or]at d;exact d
  rw[aV c,List.any_append,<-h.bit i j hi];unfold mD;rw[JL _ _ _ _ (by rw[h.len];exact a)];simp only[List.any_cons,List.any_nil,Bool.or_false,<-e,g];by_cases d:i=n
  ·subst d;rw[aq rfl,jw,b,beq_self_eq_true,aU]
  ·rw[ah d,show((n:Int)==(i:Int))=false by simp;omega];simp
 ·rw[JL _ _ _ _ (by rw[h.len];exact a)]
  split
  ·exact(h.u64 n).or hu
  ·exact h.u64 i
theorem Fz{s:Sg}(b:s.bj.length<=64):∀{F:Fo},cK s F=true->kS F
 | .nil,_=>trivial
 | .cons a n k r,h=>by
  unfold cK at h;simp only[ak]at h;exact⟨λc=>by have:=mV h.1.1 c;omega,Fz b h.1.2,Fz b h.2⟩
structure wY (p:Pg) (f:List Nat):Prop where
 len:f.length=8
 afq:∀i j,vh p i j=true->mD f i j=true
 way:∀i j,mD f i j=true->Rv (vh p) i j
theorem wY.low(hp:ez p=true)(h:wY p f)(a:mD f i j=true):i<8/\j<8:=by
 have b:=(h.way i j a).low (pT hp);have c:p.sig.bj.length<=8:=by
  exact anq
 omega
theorem wY.small(hp:ez p=true)(h:wY p f)(i:Nat):iY f i<256:=by
 refine Nat.lt_pow_two_of_testBit (n:=8) _ λj a=> ?_;rw[b5];intro hc;have:=(h.low hp (i:=i) (j:=j) hc).2;omega
theorem wY.start(hp:ez p=true)(h:Mx p p.rules.length f):wY p f:=by
 have b:∀i j,i<8->mD f i j=vh p i j:=λi j hi=>by rw[h.bit i j hi,bE];rfl
 refine⟨h.len,λi j he=> ?_,λi j a=> ?_⟩
 ·have:=(pT hp i j he).1;have c:p.sig.bj.length<=8:=by
   exact anq
  rw[b i j (by omega)];exact he
 ·by_cases hi:i<8
  ·rw[b i j hi]at a;exact .one a
  ·unfold mD at a;rw[DC (by rw[h.len];omega),Nat.zero_testBit]at a;cases a
def lE(f:List Nat)(i:Nat):Nat->Nat
 |0=>iY f i
 |j+1=>if(iY f i).testBit j then wO (lE f i j) (iY f j)else lE f i j
def fC(f:List Nat)(i j:Nat):List Nat:=(List.range 8).map λk=>if k<i then lE f k 8 else if k=i then lE f i j else iY f k
theorem dN(f:List Nat)(i j:Nat):(fC f i j).length=8:=by simp[fC]
theorem ij(f:List Nat)(i j k:Nat)(a:k<8):iY (fC f i j) k=if k<i then lE f k 8 else if k=i then lE f i j else iY f k:=by
 unfold iY fC;rw[List.getElem?_map,dh a];rfl
theorem My(h:f.length=8):fC f 0 0=f:=Az (by rw[dN,h]) λi hi=>by
 rw[dN]at hi;rw[ij _ _ _ _ hi,ah (ax _)]
 split
 ·rename_i e;subst e;rfl
 ·rfl
theorem Pr(i:Nat):fC f i 8=fC f (i+1) 0:=Az (by rw[dN,dN]) λk a=>by
 rw[dN]at a;rw[ij _ _ _ _ a,ij _ _ _ _ a];by_cases b:k<i
 ·rw[aq b,aq (by omega)]
 ·rw[ah b];by_cases c:k=i
  ·subst c;rw[aq rfl,aq (by omega)]
  ·rw[ah c,ah (by omega)]
   split
   ·rename_i e;rw[e];rfl
   ·rfl
theorem Ps(hi:i<8)(c:mD f i j=true):fC f i (j+1)=(fC f i j).set i (wO (iY (fC f i j) i) (iY f j)):=Az (by rw[dN,List.length_set,dN]) λk b=>by
 rw[dN]at b;rw[JL _ _ _ _ (by rw[dN];exact hi),ij _ _ _ _ b,ij _ _ _ _ b,ij _ _ _ _ hi];by_cases a:k=i
 ·subst a;rw[ah (dy _),aq rfl,aq rfl,ah (dy _),aq rfl];show(if(iY f k).testBit j=true then wO (lE f k j) (iY f j)else lE f k j)=_;rw[aq (show(iY f k).testBit j=true from c)]
 ·rw[ah a,ah a,ah a]
theorem Tt(b:mD f i j=false):fC f i (j+1)=fC f i j:=Az (by rw[dN,dN]) λk a=>by
 rw[dN]at a;rw[ij _ _ _ _ a,ij _ _ _ _ a];have e:lE f i (j+1)=lE f i j:=by
  show(if(iY f i).testBit j=true then wO (lE f i j) (iY f j)else lE f i j)=_;rw[show(iY f i).testBit j=false from b];rfl
 rw[e]
theorem Iu(f:List Nat)(i:Nat):∀(k j:Nat),(lE f i k).testBit j=true↔mD f i j=true\/∃l,l<k/\mD f i l=true/\mD f l j=true
 |0,j=>⟨.inl,λh=>h.elim id fun⟨l,a,_⟩=>ay a (ax _)⟩
 |k+1,j=>by
  have g:=Iu f i k j;show(if(iY f i).testBit k then wO (lE f i k) (iY f k)else lE f i k).testBit j=true↔_;by_cases b:(iY f i).testBit k=true
  ·rw[aq b,jw,b7,g];constructor
   ·rintro((h|⟨l,a,h⟩)|h)
    ·exact .inl h
    ·exact .inr ⟨l,by omega,h⟩
    ·exact .inr ⟨k,by omega,b,h⟩
   ·rintro(h|⟨l,a,c,d⟩)
    ·exact .inl (.inl h)
    ·by_cases e:l=k
     ·subst e;exact .inr d
     ·exact .inl (.inr ⟨l,by omega,c,d⟩)
  ·rw[ah b,g];constructor
   ·rintro(h|⟨l,a,h⟩)
    ·exact .inl h
    ·exact .inr ⟨l,by omega,h⟩
   ·rintro(h|⟨l,a,c,d⟩)
    ·exact .inl h
    ·by_cases e:l=k
     ·subst e;exact ay c b
     ·exact .inr ⟨l,by omega,c,d⟩
theorem FA(f:List Nat)(i:Nat):∀k,iY f i<=lE f i k
 |0=>lR
 |k+1=>by
  show _<=(if(iY f i).testBit k then wO (lE f i k) (iY f k)else lE f i k)
  split
  ·exact ai (FA f i k) Nat.left_le_or
  ·exact FA f i k
theorem FB(h:wY p f)(hi:i<8):mD (fC f 8 0) i j=true↔mD f i j=true\/∃l,l<8/\mD f i l=true/\mD f l j=true:=by
 show(iY (fC f 8 0) i).testBit j=true↔_;rw[ij _ _ _ _ hi,aq hi];exact Iu f i 8 j
theorem wY.next(hp:ez p=true)(h:wY p f):wY p (fC f 8 0):=by
 refine⟨dN _ _ _,λi j he=> ?_,λi j a=> ?_⟩
 ·have:=(h.low hp (h.afq i j he)).1;exact(FB h this).2 (.inl (h.afq i j he))
 ·by_cases hi:i<8
  ·rcases(FB h hi).1 a with a|⟨l,_,b,c⟩
   ·exact h.way i j a
   ·exact(h.way i l b).trans (h.way l j c)
  ·unfold mD at a;rw[DC (by rw[dN];omega),Nat.zero_testBit]at a;cases a
theorem wY.done(hp:ez p=true)(h:wY p f)(he:fC f 8 0=f)(i j:Nat):mD f i j=fg p i j:=
 Rw (pT hp) h.afq h.way (λi k j a b=>by
  have hi:=(h.low hp a).1;have c:=(h.low hp b).1;have:=(FB h hi).2 (.inr ⟨k,c,a,b⟩);rwa [he]at this) i j
theorem XY:∀{a b:List Nat},a.length=b.length->(∀i,iY a i<=iY b i)->a.sum<=b.sum/\(a≠b->a.sum<b.sum)
 |[],[],_,_=>⟨lR,λh=>ay rfl h⟩
 |[],_::_,h,_=>by cases h
 |_::_,[],h,_=>by cases h
 |x::a,y::b,c,h=>by
  have g:x<=y:=h 0;obtain⟨j,d⟩:=XY (a:=a) (b:=b) (by simpa using c) λi=>h (i+1);refine⟨by simp only[List.sum_cons];omega,λf=> ?_⟩;simp only[List.sum_cons];by_cases e:x=y
  ·subst e;have:=d λe=>f (by rw[e]);omega
  ·omega
theorem Tu(hp:ez p=true)(h:wY p f)(d:fC f 8 0≠f):2040-(fC f 8 0).sum<2040-f.sum:=by
 have j:=(XY (a:=f) (b:=fC f 8 0) (by rw[dN,h.len]) λi=>by
  by_cases hi:i<8
  ·rw[ij _ _ _ _ hi,aq hi];exact FA f i 8
  ·rw[DC (by rw[h.len];omega)];exact aw _).2 λe=>d e.symm
 have k:(fC f 8 0).sum<=2040:=by
  have key:∀(l:List Nat),(∀x∈l,x<=255)->l.sum<=l.length*255:=λl=>by
   induction l with
   |nil=>intro _;simp
   |cons x l g=>
    intro c;have:=g λy hy=>c y (by simp[hy]);have:=c x (by simp);simp only[List.sum_cons,aD];omega
  have:=key (fC f 8 0) λx c=>by
   obtain⟨i,hi,rfl⟩:=bC.1 c;have:=(h.next hp).small hp i;unfold iY at this;rw[ae hi]at this;simp only[bK]at this;omega
  rw[dN]at this;exact this
 omega
theorem Pt(hp:ez p=true)(h:wY p f)(d:j<=8)(k:Nat):py (iY (fC f i j) k):=by
 have a:=λi=>h.small hp i;have b:∀i j,lE f i j<256:=λi j=>by
  induction j with
  |zero=>exact a i
  |succ j c=>
   show(if(iY f i).testBit j then wO (lE f i j) (iY f j)else lE f i j)<256
   split
   ·exact Nat.or_lt_two_pow (n:=8) c (a j)
   ·exact c
 by_cases c:k<8
 ·rw[ij _ _ _ _ c];have e:=b k 8;have g:=b i j;have l:=a k;unfold py
  split
  ·omega
  ·split<;>omega
 ·rw[DC (by rw[dN];omega)];show(0:Nat)<_;decide
def fR(f:List Nat):List Value:=f.map fun(x:Nat)=>.int .u64 (x:Int)
theorem wH(f:List Nat):(fR f).length=f.length:=by simp[fR]
theorem Iv(h:i<f.length):(fR f)[i]? =some (.int .u64 (iY f i:Nat)):=by simp[fR,iY,h]
theorem Tv(f:List Nat)(i x:Nat):(fR f).toArray.setIfInBounds i (.int .u64 (x:Nat))=(fR (f.set i x)).toArray:=by
 simp only[fR,bG,List.map_set]
theorem wI(f:List Nat):∀u∈fR f,u.oneCell'=true:=by intro u hu;obtain⟨x,_,rfl⟩:=aN.1 hu;rfl
theorem eq_int{P:Program}(d:Nat){T:TypeId}{k:IntKind}(c:P.underlying T=some (.int k))(a b:Int)(w:World):(Op.equalIn (d+1) T (.int k a) (.int k b)).run P w=.ok (a==b) w:=by
 unfold Op.equalIn;rw[bB,run_underlying c w,bg];show((if k=k then(pure (a==b):Sem Bool)else _)).run P w=_;rw[aq rfl]
 rfl
theorem abp(x y:Nat)(w:World):(Op.equalIn 9999 201 (.int .u64 (x:Nat)) (.int .u64 (y:Nat))).run Tryz.prog w=.ok (decide (x=y)) w:=by
 rw[show(9999:Nat)=9998+1 from rfl,eq_int 9998 Tryz.underlying201]
 congr 1
 rw[aP];simp only[b_,decide_eq_true_eq];omega
theorem Iw(b:List Nat)(i:Nat)(hi:i<b.length)(w:World):(part 201 (fR b).toArray (i*1)).run Tryz.prog w=.ok (.int .u64 (iY b i:Nat)) w:=
 Eb Tryz.underlying201 _ _ _ (by rw[aF,Nat.mul_one,Iv hi]) w
theorem XZ(a b:List Nat)(c:a.length=b.length):decide (a=b)=(List.range a.length).all λi=>decide (iY a i=iY b i):=by
 rw[aP];simp only[decide_eq_true_eq,aK,bq];constructor
 ·rintro rfl i _;rfl
 ·intro h;exact Az c h
theorem Pu(a b:List Nat)(c:a.length=8)(e:b.length=8)(w:World):(Op.equalIn 10000 203 (.agg (fR a).toArray) (.agg (fR b).toArray)).run Tryz.prog w=.ok (decide (a=b)) w:=by
 rw[show(10000:Nat)=9999+1 from rfl,Op.equalIn];simp only[bB,run_underlying Tryz.underlying203,bg,Tryz.sizeOf201];simp only[Std.Legacy.Range.forIn_eq_forIn_range',Std.Legacy.Range.size,Nat.sub_zero,Nat.add_sub_cancel,Nat.div_one];rw[XZ a b (c.trans e.symm),c,List.range_eq_range'];have key:∀(is:List Nat) (w:World),(∀i∈is,i<8)->Sem.run Tryz.prog (forIn is ((none,()):Option Bool×Unit) λi d=>do
  let x <-part 201 (fR a).toArray (i*1)
  let y <-part 201 (fR b).toArray (i*1)
  let r <-Op.equalIn 9999 201 x y
  if(!r)=true then pure (ForInStep.done (some false,()))else pure (ForInStep.yield (none,()))) w=.ok (if(is.all λi=>decide (iY a i=iY b i))=true then(none,())else(some false,())) w:=by
  intro is
  induction is with
  |nil=>intro w _;simp
  |cons i is f=>
   intro w h;have hi:=h i (by simp);simp only[List.forIn_cons,bB,Iw a i (by omega),Iw b i (by omega),bg,abp,List.all_cons];by_cases d:iY a i=iY b i
   case neg=>simp[d]
   case pos=>
    simp only[d,decide_true,Bool.not_true,bF,if_false,Sem.run_pure,bg,aU];exact f w (λi h'=>h i (by simp[h']))
 have:=key (List.range' 0 8) w (λi hi=>by simp at hi;omega);rw[this]
 cases(List.range' 0 8).all λi=>decide (iY a i=iY b i)<;>simp
theorem JM(a b:List Nat)(c:a.length=8)(d:b.length=8)(w:World):(binOp .eql 203 (.agg (fR a).toArray) (.agg (fR b).toArray)).run Tryz.prog w=.ok (.bool (decide (a=b))) w:=by
 rw[run_eql_struct,Pu a b c d];rfl
end
section
open Go Go.RowKit Go.Sort
attribute [local go_sem] Db aT cW df jT kK mh vX zF
def jZ(W:World)(b:Nat)(f:List Nat):Prop:=W.heap[b]? =some (.cells (fR f).toArray 203 (0,0))
theorem jZ.cell(h:jZ W b f)(hi:i<f.length):W.cell? ⟨b,i,none⟩=some (.int .u64 (iY f i:Nat)):=by
 rw[cell_of_row _ _ _ _ _ _ h,aF,Iv hi]
theorem jZ.set(h:jZ W b f)(i x:Nat):jZ (W.setCell ⟨b,i,none⟩ (.int .u64 (x:Nat))) b (f.set i x):=by
 unfold jZ;rw[cz h,Tv]
theorem jZ.keep(h:jZ W b f)(a:Below W.heap.size W W'):jZ W' b f:=cY a h
theorem jZ.fz(h:jZ W b f)(i:Nat):W.frozen? ⟨b,i,none⟩=false:=by
 unfold jZ at h;simp[World.frozen?,h]
structure wZ (w0:World) (cv fv rv:Value) (f:List Nat) (W:World):Prop where
 low:Below w0.heap.size w0 W
 box:W.heap[w0.heap.size]? =some (.cells #[cv,fv,rv] 42 (0,0))
 res:W.heap[w0.heap.size+1]? =some (.cells (fR (List.replicate 8 0)).toArray 203 (0,0))
 m:jZ W (w0.heap.size+1+1) f
theorem wZ.below{w0:World}{cv fv rv:Value}(h:wZ w0 cv fv rv f W)(a:Below W.heap.size W W'):wZ w0 cv fv rv f W':=
 ⟨ag h.low a lR,cY a h.box,cY a h.res,h.m.keep a⟩
theorem wZ.set{w0:World}{cv fv rv:Value}(h:wZ w0 cv fv rv f W)(i x:Nat):wZ w0 cv fv rv (f.set i x) (W.setCell ⟨w0.heap.size+1+1,i,none⟩ (.int .u64 (x:Nat))):=
 ⟨Below.setCell (p:=⟨w0.heap.size+1+1,i,none⟩) h.low (show w0.heap.size<=w0.heap.size+1+1 by omega) _,(au _ _ _ _ (show w0.heap.size≠w0.heap.size+1+1 by omega)).trans h.box,(au _ _ _ _ (show w0.heap.size+1≠w0.heap.size+1+1 by omega)).trans h.res,h.m.set i x⟩
theorem wZ.other{w0:World}{cv fv rv:Value}(h:wZ w0 cv fv rv f W){o:Nat}{v:Value}(a:w0.heap.size+3<=q):wZ w0 cv fv rv f (W.setCell ⟨q,o,none⟩ v):=
 ⟨Below.setCell (p:=⟨q,o,none⟩) h.low (show w0.heap.size<=q by omega) _,(au _ _ _ _ (show w0.heap.size≠q by omega)).trans h.box,(au _ _ _ _ (show w0.heap.size+1≠q by omega)).trans h.res,(au _ _ _ _ (show w0.heap.size+1+1≠q by omega)).trans h.m⟩
theorem qi(h:q≠b):∀(vs:List Value) (o:Nat) (W:World),(W.setCells b o vs).heap[q]? =W.heap[q]?
 |[],_,_=>rfl
 |v::vs,o,W=>(qi h vs (o+1) (W.setCell ⟨b,o,none⟩ v)).trans (au _ _ _ _ h)
theorem tD{A:Nat}{z:Array Value}(c:f.length=8)(h:W.heap[A]? =some (.cells z 203 (0,0)))(b:z.size=8):
 W.there A 0 (fR f).toArray.size/\(Tryz.prog.info? 203).map (·.size)=some (fR f).toArray.size/\(W.setCells A 0 (fR f)).heap[A]? =some (.cells (fR f).toArray 203 (0,0)):=by
 have a:(fR f).length=8:=by rw[wH,c]
 have hi:(Tryz.prog.info? 203).map (·.size)=some (fR f).toArray.size:=by rw[List.size_toArray,a];kernel_rfl
 exact⟨uN h (by rw[b,List.size_toArray,a]),hi,F7 h (by rw[b,a])⟩
abbrev aiL:Oper:=⟨some 16,.fieldAddr 139 (.tmp 5) 0,0,eh,#[],none⟩
abbrev aiM:Oper:=⟨some 17,.load 3 (.tmp 16),3,eh,#[aj 0],none⟩
abbrev aiN:Oper:=⟨some 18,.indexAddr 203 (.tmp 3) (.tmp 17),0,eh,#[aj 1],none⟩
abbrev aiO:Oper:=⟨some 19,.load 201 (.tmp 18),201,eh,#[aj 2],none⟩
abbrev aiP:Oper:=⟨some 20,.fieldAddr 139 (.tmp 5) 2,0,eh,#[],none⟩
abbrev aiQ:Oper:=⟨some 21,.load 54 (.tmp 20),54,eh,#[aj 4],none⟩
abbrev aiR:Oper:=⟨some 22,.call ⟨.value (.func 201),#[.tmp 21],#[54]⟩,201,eh,#[aj 5],none⟩
abbrev aiS:Oper:=⟨some 23,.binOp .or 201 (.tmp 19) (.tmp 22) 201,201,eh,#[aj 3,aj 6],none⟩
abbrev aiT:Oper:=⟨some 24,.indexAddr 203 (.tmp 3) (.tmp 17),0,eh,#[aj 1,al 0,al 1,al 2,al 3,al 4,al 5,al 6,al 7],none⟩
abbrev aiU:Oper:=⟨none,.store 201 (.tmp 24) (.tmp 23),0,eh,#[aj 8,aj 7,ao 6,al 0,al 1,al 2,al 3,al 4,al 5,al 6,al 7],none⟩
def X0:Array Oper:= #[aiL,aiM,aiN,aiO,aiP,aiQ,aiR,aiS,aiT,aiU]
theorem Mz(hp:ez p=true)(v:Value)(w:World)(B:Nat)(hv:I0 w B v p)(hB:B<=w.heap.size):
 Calls Tryz.prog 149 #[v] w λe w'=>∃f,e=.returned (.agg (fR f).toArray)/\f.length=8/\(∀i j,mD f i j=fg p i j)/\(∀i,py (iY f i))/\Below w.heap.size w w':=by
 obtain⟨cv,fv,rv,rfl,hc,u,L⟩:=hv;obtain⟨z,cc,rfl⟩:=hc.slice;obtain⟨A,C,rfl⟩:=u.slice;obtain⟨H,rc,rfl⟩:=L.slice;have T1:p.rules.length<=16:=by
  unfold ez at hp;rw[ak,ak]at hp;exact bu hp.1.2
 have su:p.sig.bj.length<=8:=by
  exact anq
 have I:∀k,k<p.rules.length->∃n:Nat,(cQ p.rules k).fn=(n:Int)/\n<8/\kS (cQ p.rules k).rhs.one:=λk hk=>by
  have e:cQ p.rules k=p.rules[k]:=by unfold cQ;rw[ae hk];rfl
  have t:=mW hp (cQ p.rules k) (by rw[e];exact aR hk);exact⟨(cQ p.rules k).fn.toNat,by have:=t.fn.1;omega,by have:=t.fn.2;omega,Fz (by omega) (kD t.rhs)⟩
 have t:=jf w (.cells #[.slice z p.sig.cons.length cc,.slice A p.sig.bj.length C,.slice H p.rules.length rc] 42) (.cells (fR (List.replicate 8 0)).toArray 203) (.cells (fR (List.replicate 8 0)).toArray 203);have M:=Below.F0 w (.cells #[.slice z p.sig.cons.length cc,.slice A p.sig.bj.length C,.slice H p.rules.length rc] 42) (.cells (fR (List.replicate 8 0)).toArray 203) (.cells (fR (List.replicate 8 0)).toArray 203);obtain⟨a,HR,D,Zj⟩:=h_4 (show wZ w _ _ _ _ _ from⟨M,t.1,t.2.1,t.2.2⟩) (L.mono hB) hp I;clear hc u L t M hp I
 go_enter Tryz.func149,Tryz.ntmps149
 go_upto_region 2 with fail
 refine eR (λY=>wZ w (.slice z p.sig.cons.length cc) (.slice A p.sig.bj.length C) (.slice H p.rules.length rc) (List.replicate 8 0) Y) a.o ?_;clear a;rintro w1 t;have u:=fu t.box;have I:=af u;have H1:=hI t;clear t;go_wp2;clear u I
 go_loopw [12] (λi wr=>∃(k:Nat) (f:List Nat),k<=p.rules.length/\i=.int .i64 k/\Mx p k f/\wZ w (.slice z p.sig.cons.length cc) (.slice A p.sig.bj.length C) (.slice H p.rules.length rc) f wr) (λi _=>p.rules.length-(intOf i).toNat)
 case atStart=>exact⟨0,List.replicate 8 0,aw _,rfl,Mx.zero p,H1.o⟩
 case round=>
  obtain⟨k,f,hk,rfl,l,G⟩:=hrel;obtain⟨d,E8⟩:=xE wr;subst E8;by_cases E:k<p.rules.length
  ·obtain⟨b,off,cap,pv,pc,q1,q,yZ,fF,d0,d1,d2,d3,d4,d5,O,N⟩:=zK HR.o G.low E;cases yZ;have zd:=af d0;have om:(k:Int)<(p.rules.length:Int):=by omega
   obtain⟨n,m,t,c⟩:=Zj.o k E;have R:=l.step E m t c;have ux:=l.u64 n;have Q:py (nU (cQ p.rules k).rhs):=r_ _ c.2.1 (vK c.1);obtain⟨u,nR,s,I⟩:=h_4 R l.len E t;obtain⟨r,L⟩:=xE (cQ p.rules k);rw[<-L]at d0 d1 d2 d3 d4 d5 O N m c Q u;rw[m]at d0;obtain⟨o,T⟩:=qS d (.cells #[.int .i64 (n:Nat),.slice pv r.bT.len pc,.int .i64 r.rhs.a,.int .i64 r.rhs.n,.slice q1 r.rhs.k.len q,.int .i64 r.vars] 139);have J:=hI (G.below o);have jN:=hI T;have RV:Hd (dr (d.alloc (.cells #[.int .i64 (n:Nat),.slice pv r.bT.len pc,.int .i64 r.rhs.a,.int .i64 r.rhs.n,.slice q1 r.rhs.k.len q,.int .i64 r.vars] 139)) w.heap.size (.slice q1 r.rhs.k.len q) r.rhs.k):=hI (N.below o G.low.size);have HCO:=hI c;clear l G R L O N o T c E m
   go_upto_region 5 with fail
   refine eR (λY=>wZ w (.slice z p.sig.cons.length cc) (.slice A p.sig.bj.length C) (.slice (some ⟨b,off,none⟩) p.rules.length rc) f Y/\dr Y w.heap.size (.slice q1 r.rhs.k.len q) r.rhs.k/\Y.heap[d.heap.size]? =some (.cells #[.int .i64 (n:Nat),.slice pv r.bT.len pc,.int .i64 r.rhs.a,.int .i64 r.rhs.n,.slice q1 r.rhs.k.len q,.int .i64 r.vars] 139 (0,0))) ⟨J.o,RV.o,jN.o⟩ ?_;clear J RV jN d0 d1 d2 d3 d4 d5 zd;rintro Y ⟨G,c,hy⟩;have F:=G.m.cell (i:=n) (by rw[nR.o];exact I.o);have N:=cZ hy;have R:=fu hy;have T:=xk hy;have W:=Za hy;have zy:=af N;have X:=af F;obtain⟨a,HQ,HY⟩:=h_3 G c hy;have t:(n:Int)<8:=by have:=I.o;omega
   clear G c hy;refine ff (S:=λV=>V.cell? ⟨d.heap.size,0,none⟩=some (.int .i64 (n:Nat))/\V.cell? ⟨d.heap.size,2,none⟩=some (.int .i64 r.rhs.a)/\V.cell? ⟨d.heap.size,3,none⟩=some (.int .i64 r.rhs.n)/\V.cell? ⟨d.heap.size,4,none⟩=some (.slice q1 r.rhs.k.len q)/\V.cell? ⟨w.heap.size+1+1,n,none⟩=some (.int .u64 (iY f n:Nat))) 9 (by kernel_rfl) (by decide) (⟨N,R,T,W,F⟩) (λhHeld=> ?_)
   change mI _ _ X0 _ _ _ _ _ _ _ _
   refine oD (λZ=>Below Y.heap.size Y Z) (Below.ia bR) hHeld ?_;clear hHeld;rintro V o hHeld;refine qH 0 ⟨some 16,.fieldAddr 139 (.tmp 5) 0,0,eh,#[],none⟩ hHeld ?_;refine qH 1 ⟨some 17,.load 3 (.tmp 16),3,eh,#[aj 0],none⟩ hHeld ?_;refine qH 2 ⟨some 18,.indexAddr 203 (.tmp 3) (.tmp 17),0,eh,#[aj 1],none⟩ hHeld ?_;refine qH 3 ⟨some 19,.load 201 (.tmp 18),201,eh,#[aj 2],none⟩ hHeld ?_;refine qH 4 ⟨some 20,.fieldAddr 139 (.tmp 5) 2,0,eh,#[],none⟩ hHeld ?_;refine qH 5 ⟨some 21,.load 54 (.tmp 20),54,eh,#[aj 4],none⟩ hHeld ?_;have Uq:=hI (Fy _ r.rhs lR HCO.o (.agg #[.int .i64 r.rhs.a,.int .i64 r.rhs.n,.slice q1 r.rhs.k.len q]) V w.heap.size ⟨_,rfl,HQ.o.below o (a.o.low.size)⟩ (ai a.o.low.size o.size));have O:=hI (a.o.below o);have hyV:=bQ HY.o o zy;have HYV:=hI hyV;unfold aH at Uq;generalize nU r.rhs=x at Uq u Q;clear o N R T W F zy X hyV;refine qO 6 ⟨some 22,.call ⟨.value (.func 201),#[.tmp 21],#[54]⟩,201,eh,#[aj 5],none⟩ λK hK=> ?_;go_simp;refine Uq.o.mono ?_;rintro e w3 ⟨rfl,M⟩;have J:=hI (O.o.below M);have c:=cY M HYV.o;have N:=cZ c;have R:=fu c;have T:=xk c;have W:=Za c;have F:=J.o.m.cell (i:=n) (by rw[nR.o];exact I.o);clear M hHeld c;refine qK hK (⟨N,R,T,W,F⟩) λhHeld=> ?_;clear hK K;refine qH 7 ⟨some 23,.binOp .or 201 (.tmp 19) (.tmp 22) 201,201,eh,#[aj 3,aj 6],none⟩ hHeld ?_;refine qH 8 ⟨some 24,.indexAddr 203 (.tmp 3) (.tmp 17),0,eh,#[aj 1,al 0,al 1,al 2,al 3,al 4,al 5,al 6,al 7],none⟩ hHeld ?_;refine jQ (by kernel_rfl) ?_
   change wpList _ X0 _ [⟨none,.store 201 (.tmp 24) (.tmp 23),0,eh,#[aj 8,aj 7,ao 6,al 0,al 1,al 2,al 3,al 4,al 5,al 6,al 7],none⟩] _ _
   clear hHeld;have hfz:=J.o.m.fz n;have X:=af F;clear N R T W;go_wp2
   go_roundw
   case rel=>exact⟨k+1,_,s.o,by go_num,u.o,J.o.set n _⟩
   case measure=>have:=s.o;simp[intOf];omega
  ·obtain rfl:k=p.rules.length:=by omega
   have c:=wY.start D.o l;have q:=hI c;have a:=hI G;clear c G l;go_wp2
   go_loopg [] (2040-f.sum+1) (λg wr=>∃f,2040-f.sum<g/\wY p f/\wZ w (.slice z p.sig.cons.length cc) (.slice A p.sig.bj.length C) (.slice H p.rules.length rc) f wr)
   case atStart=>exact⟨f,Nat.lt_succ_self _,q.o,a.o⟩
   case round=>
    clear q a;obtain⟨d,rfl⟩:∃d:World,d=wr:=⟨_,rfl⟩;obtain⟨f,t,c,G⟩:=hrel;have F:=(gE G.m).1;obtain⟨I,q,a,R,T,ZB,u⟩:=h_7 (mP G.m) c G t F (a_ d (.cells (fR (List.replicate 8 0)).toArray 203)) (tD c.len (a_ d (.cells (fR (List.replicate 8 0)).toArray 203)) rfl);have N:Hd ((Tryz.prog.info? 203).map (·.size)=some (fR f).length):=hI (by rw[wH,c.len];kernel_rfl);clear c G t
    go_wp2_with (first|(refine wpList_load_mid rfl 203 _ rfl _ _ rfl _ _ I.o Tryz.underlying203 rfl N.o ?_)|(
     refine wpList_store_mid rfl 203 _ _ rfl _ _ _ rfl rfl u.o.1 u.o.2.1 (all_oneCell_toArray (wI _)) ?_;generalize t:World.setCells _ _ _ _=Q;have k2:jZ Q d.heap.size f:=by rw[<-t];exact u.o.2.2
     have bD:Below d.heap.size d Q:=by rw[<-t];exact h_ lR _ _ _ (Below.cA _ _)
     clear t))
    have W:=hI (a.o.below bD);have lX:=hI k2;clear bD k2 I N ZB u a
    go_loopw [27] (λi wr=>∃k:Nat,k<=8/\i=.int .i64 k/\jZ wr d.heap.size (fC f k 0)/\wZ w (.slice z p.sig.cons.length cc) (.slice A p.sig.bj.length C) (.slice H p.rules.length rc) f wr) (λi _=>8-(intOf i).toNat)
    case atStart=>exact⟨0,by omega,rfl,by rw[My q.o.len];exact lX.o,W.o⟩
    case round=>
     obtain⟨k,hk,rfl,m,G⟩:=hrel;have HN:=hI m;have a:=hI G;clear m G;by_cases E:k<8
     ·have om:(k:Int)<8:=by omega
      have s:=hI E;clear E;go_wp2
      go_loopw [30] (λi wr=>∃j:Nat,j<=8/\i=.int .i64 j/\jZ wr d.heap.size (fC f k j)/\wZ w (.slice z p.sig.cons.length cc) (.slice A p.sig.bj.length C) (.slice H p.rules.length rc) f wr) (λi _=>8-(intOf i).toNat)
      case atStart=>exact⟨0,by omega,rfl,HN.o,a.o⟩
      case round=>
       obtain⟨j,hj,rfl,m,G⟩:=hrel;by_cases mT:j<8
       ·have KZ:(j:Int)<8:=by omega
        obtain⟨t,Q,N⟩:=h_3 m G mT;have c1:=G.m.cell (i:=k) (by rw[q.o.len];exact s.o);have X:=af c1;have hsb:=tB (k:=j) (by omega);have hu1:py (iY f k):=by have:=q.o.small D.o k;show _<_;omega
        have X1:py (og j):=py.bit (by omega);clear m G mT;cases hb:(iY f k).testBit j
        ·have I:=hI (Tt (f:=f) (i:=k) (j:=j) hb)
         go_wp2_with fail
         refine aM (by kernel_rfl) (by kernel_rfl) ?_
         repeat go_big_quiet_step (fail)
         refine wpQuiet_nil ?_;intro V o;have u:=hI (t.o.keep o);have O:=hI (Q.o.below o);clear o c1 X;go_wp2
         go_roundw
         case rel=>exact⟨j+1,N.o,by go_num,by rw[I.o];exact u.o,O.o⟩
         case measure=>have:=N.o;simp[intOf];omega
        ·have LM:=hI (Ps (f:=f) (i:=k) (j:=j) s.o hb)
         go_wp2_with fail
         refine aM (by kernel_rfl) (by kernel_rfl) ?_
         repeat go_big_quiet_step (fail)
         refine wpQuiet_nil ?_;intro V o;have u:=hI (t.o.keep o);have O:=hI (Q.o.below o);clear o c1 X;have cj:=O.o.m.cell (i:=j) (by rw[q.o.len];exact N.o);have ck:=u.o.cell (i:=k) (by rw[dN];exact s.o);have zj:=af cj;have zk:=af ck;have hux:=Pt D.o q.o (i:=k) (j:=j) (by omega) k;have huy:py (iY f j):=by have:=q.o.small D.o j;show _<_;omega
         generalize I:iY (fC f k j) k=x at ck hux LM;generalize hy:iY f j=y at cj huy LM;clear I hy
         go_wp2_with fail
         refine gw 8 (by kernel_rfl) (by kernel_rfl) ?_;simp only[List.take_succ_cons,List.take_zero,List.drop_succ_cons,List.drop_zero]
         repeat go_big_quiet_step (fail)
         refine wpQuiet_nil ?_;intro U FX;have I:=hI (u.o.keep FX);have HSU:=hI (O.o.below FX);have ck:=I.o.cell (i:=k) (by rw[dN];exact s.o);have zk:=af ck;have hfz:=I.o.fz k;clear FX cj zj;go_wp2
         go_roundw
         case rel=>exact⟨j+1,N.o,by go_num,by rw[LM.o];exact I.o.set k _,HSU.o.other (by have:=T.o;omega)⟩
         case measure=>have:=N.o;simp[intOf];omega
       ·obtain rfl:j=8:=by omega
        rw[Pr]at m;have t:=hI m;have Q:=hI G;clear m G;go_wp2
        go_roundw
        case rel=>exact⟨k+1,s.o,by go_num,t.o,Q.o⟩
        case measure=>have:=s.o;simp[intOf];omega
     ·obtain rfl:k=8:=by omega
      have N:=hI (mP HN.o);have o:=hI (mP a.o.m);have c:=q.o;have s:Hd ((Tryz.prog.info? 203).map (·.size)=some (fR (fC f 8 0)).length):=hI (by rw[wH,dN];kernel_rfl);have t:Hd ((Tryz.prog.info? 203).map (·.size)=some (fR f).length):=hI (by rw[wH,c.len];kernel_rfl);have heq:=JM (fC f 8 0) f (dN _ _ _) c.len;by_cases I:fC f 8 0=f
      ·rw[aI I]at heq;have xg:=c.done D.o I;have X2:=λi=>c.small D.o i;have hlen:=c.len;obtain⟨u,Q,O,X⟩:=h_4 (tD c.len a.o.res (by simp[fR])) xg X2 hlen;clear c xg X2 hlen I
       go_wp2_with (first|(refine wpList_load_mid rfl 203 _ rfl _ _ rfl _ _ N.o Tryz.underlying203 rfl s.o ?_)|(refine wpList_load_mid rfl 203 _ rfl _ _ rfl _ _ o.o Tryz.underlying203 rfl t.o ?_)|(
        refine wpList_store_mid rfl 203 _ _ rfl _ _ _ rfl rfl u.o.1 u.o.2.1 (all_oneCell_toArray (wI _)) ?_))
       exact bodyPost_ret (v:=.agg (fR f).toArray) (di rfl rfl (run_loadVar_mid (P:=Tryz.prog) _ (w.heap.size+1) 0 203 (fR f) _ (World.rangeAt_setCells_same wr _ 0 _ u.o.1) Tryz.underlying203 rfl t.o)) rfl ⟨f,rfl,X.o,Q.o,λi=>Nat.lt_trans (O.o i) (by decide),h_ (Nat.le_succ _) _ _ _ a.o.low⟩
      ·rw[aB I]at heq;obtain⟨Q,u,J⟩:=h_3 (c.next D.o) (Tu D.o c I) (tD (dN f 8 0) a.o.m (by simp[fR,c.len]));clear c I
       go_wp2_with (first|(refine wpList_load_mid rfl 203 _ rfl _ _ rfl _ _ N.o Tryz.underlying203 rfl s.o ?_)|(refine wpList_load_mid rfl 203 _ rfl _ _ rfl _ _ o.o Tryz.underlying203 rfl t.o ?_)|(
        refine wpList_store_mid rfl 203 _ _ rfl _ _ _ rfl rfl J.o.1 J.o.2.1 (all_oneCell_toArray (wI _)) ?_))
       go_roundg (2040-(fC f 8 0).sum+1)
       case rel=>exact⟨fC f 8 0,Nat.lt_succ_self _,Q.o,h_ (by omega) _ _ _ a.o.low,(qi (by omega) _ _ _).trans a.o.box,(qi (by omega) _ _ _).trans a.o.res,J.o.2.2⟩
       case measure=>have:=u.o;have:=R.o;omega
end
section
open Go Go.RowKit
def ofM(f:List Nat)(k:Nat):Nat->Nat
 |0=>og k
 |j+1=>if(iY f k).testBit j&&(iY f j).testBit k then wO (ofM f k j) (og j)else ofM f k j
theorem Re(f:List Nat)(k:Nat):∀(n i:Nat),(ofM f k n).testBit i=(i==k||(decide (i<n)&&(mD f k i&&mD f i k)))
 |0,i=>by
  show(og k).testBit i=_;rw[sF,aP];simp only[decide_eq_true_eq,ax,decide_false,Bool.false_and,Bool.or_false,b_];exact⟨λe=>e.symm,λe=>e.symm⟩
 |n+1,i=>by
  have b:=Re f k n i;show(if(iY f k).testBit n&&(iY f n).testBit k then wO (ofM f k n) (og n)else ofM f k n).testBit i=_;have c:decide (i<n+1)=(decide (i<n)||decide (n=i)):=by
   rw[aP];simp only[b7,decide_eq_true_eq];omega
  rw[c];by_cases a:((iY f k).testBit n&&(iY f n).testBit k)=true
  ·rw[aq a,jw,b,sF];by_cases e:n=i
   ·subst e;rw[show(mD f k n&&mD f n k)=true from a];simp
   ·rw[aB e];simp
  ·rw[ah a,b];by_cases e:n=i
   ·subst e;rw[show(mD f k n&&mD f n k)=false by rw[b5];exact a];simp
   ·rw[aB e];simp
theorem DD(a:k<64):∀{n:Nat},n<=64->py (ofM f k n)
 |0,_=>py.bit a
 |n+1,h=>by
  show py (if(iY f k).testBit n&&(iY f n).testBit k then wO (ofM f k n) (og n)else ofM f k n)
  split
  ·exact(DD a (by omega)).or (py.bit (by omega))
  ·exact DD a (by omega)
theorem abq(a:(iY f k).testBit j=true)(b:(iY f j).testBit k=true):ofM f k (j+1)=wO (ofM f k j) (og j):=by
 show(if(iY f k).testBit j&&(iY f j).testBit k then wO (ofM f k j) (og j)else ofM f k j)=_;rw[a,b];rfl
theorem X3(h:(iY f k).testBit j=false\/(iY f j).testBit k=false):ofM f k (j+1)=ofM f k j:=by
 show(if(iY f k).testBit j&&(iY f j).testBit k then wO (ofM f k j) (og j)else ofM f k j)=_;rcases h with h|h<;>rw[h]<;>simp
structure Gv (R:Nat->Nat->Bool) (n:Nat) (f:List Nat):Prop where
 len:f.length=8
 bit:∀i j,mD f i j=R i j
 low:∀i j,R i j=true->i<n/\j<n
 n8:n<=8
 u64:∀i,py (iY f i)
section
variable {R:Nat->Nat->Bool} {n:Nat} {f:List Nat}
theorem Gv.of(h:Gv R n f):(ofM f k n).testBit i=(i==k||(R k i&&R i k)):=by
 rw[Re,h.bit,h.bit];cases a:R k i
 ·simp
 ·have:=(h.low k i a).2;rw[aI this];rfl
theorem Gv.grp(h:Gv R n f)(b:k<n):(oE R n k).contains i=(ofM f k n).testBit i:=by
 rw[h.of,aP,bh,mM];simp only[b7,ak,b_];constructor
 ·rintro⟨_,h|h⟩
  ·exact .inl h
  ·exact .inr h
 ·rintro(rfl|a)
  ·exact⟨b,.inl rfl⟩
  ·exact⟨(h.low _ _ a.1).2,.inr a⟩
theorem Gv.ready(h:Gv R n f){done:Nat->Bool}{D:Nat}(e:∀i,D.testBit i=done i)(k:Nat):lK R n done k=(!D.testBit k&&(DZ (iY f k) (wO D (ofM f k n))==0)):=by
 rw[aP,sD,ak,Bool.not_eq_true',b_,e k];have g:DZ (iY f k) (wO D (ofM f k n))=0↔∀i,R k i=true->done i=true\/i=k\/R i k=true:=by
  constructor
  ·intro j i c;have d:(DZ (iY f k) (wO D (ofM f k n))).testBit i=false:=by rw[j,Nat.zero_testBit]
   rw[rq,jw,h.of,e,show(iY f k).testBit i=true by rw[show(iY f k).testBit i=mD f k i from rfl,h.bit];exact c,aU,Bool.not_eq_false',c,aU,b7,b7,b_]at d;exact d
  ·intro j;apply Nat.eq_of_testBit_eq;intro i;rw[Nat.zero_testBit,rq,jw,h.of,e,show(iY f k).testBit i=R k i by rw[show(iY f k).testBit i=mD f k i from rfl,h.bit]];cases c:R k i
   ·rfl
   ·rcases j i c with d|d|d
    ·rw[d];simp
    ·subst d;simp
    ·rw[d];simp
 rw[g];constructor
 ·rintro⟨a,b⟩;exact⟨a,λi c=>b i (h.low _ _ c).2 c⟩
 ·rintro⟨a,b⟩;exact⟨a,λi _ c=>b i c⟩
theorem Tw{p:Nat->Bool}(a:k<n)(b:p k=true)(c:∀i,i<k->p i=false):(List.range n).find? p=some k:=by
 rw[List.find?_range_eq_some];exact⟨b,bq.2 a,λj d=>by rw[c j d];rfl⟩
theorem abr{p:Nat->Bool}(a:∀i,i<n->p i=false):(List.range n).find? p=none:=by
 rw[List.find?_eq_none];intro x b;rw[a x (bq.1 b)];decide
theorem JN{done:Nat->Bool}{m:Nat}(a:k<n)(b:lK R n done k=true)(c:∀i,i<k->lK R n done i=false):jB R n (m+1) done=oE R n k::jB R n m λi=>done i||(oE R n k).contains i:=by
 rw[jB,Tw a b c]
theorem Pv{done:Nat->Bool}{m:Nat}(a:∀i,i<n->lK R n done i=false):jB R n (m+1) done=[]:=by
 rw[jB,abr a]
def C1(R:Nat->Nat->Bool)(k j:Nat):List Nat:=(List.range j).filter λi=>i==k||(R k i&&R i k)
theorem MA(k:Nat):C1 R k n=oE R n k:=rfl
theorem X4(h:Gv R n f)(a:(ofM f k n).testBit j=true):C1 R k (j+1)=C1 R k j++[j]:=by
 unfold C1;rw[h.of]at a;rw[List.range_succ,List.filter_append,bp,aq a,List.filter_nil]
theorem abt(h:Gv R n f)(a:(ofM f k n).testBit j=false):C1 R k (j+1)=C1 R k j:=by
 unfold C1;rw[h.of]at a;rw[List.range_succ,List.filter_append,bp,ah (by rw[a];decide),List.filter_nil,bk]
theorem MB(k j:Nat):(C1 R k j).length<=j:=by
 unfold C1;exact aof
end
end
section
open Go Go.RowKit Go.Sort
attribute [local go_sem] Db aT cW df jT kK mh vX zF
structure X5 (W:World) (nb rb n:Nat) (f:List Nat):Prop where
 n:W.cell? ⟨nb,0,none⟩=some (.int .i64 (n:Nat))
 r:jZ W rb f
theorem X5.below{nb rb:Nat}(h:X5 W nb rb n f)(a:Below W.heap.size W W'):X5 W' nb rb n f:=
 ⟨(a.cell (p:=⟨nb,0,none⟩) (af h.n)).trans h.n,h.r.keep a⟩
theorem MD{R:Nat->Nat->Bool}(h:Gv R n f)(d:k<8)(w:World){nb rb:Nat}(a:X5 w nb rb n f):
 aH Tryz.prog 150 #[.int .i64 (k:Nat),.pointer (some ⟨nb,0,none⟩),.pointer (some ⟨rb,0,none⟩)] w (.int .u64 (ofM f k n:Nat)):=by
 have q:=h.n8;obtain⟨e,g,r⟩:=h_3 h.len h.u64 a;have c0:=a.n;have z0:=af c0;have s:=tB (k:=k) (by omega);have c:=hI d;have t:k<64:=by omega
 clear h a d;unfold aH
 go_enter Tryz.func150,Tryz.ntmps150
 go_wp2;clear c0 z0
 go_loopw [5,10] (λm i wr=>∃j:Nat,j<=n/\i=.int .i64 j/\m=.int .u64 (ofM f k j:Nat)/\Below w.heap.size w wr) (λ_ i _=>n-(intOf i).toNat)
 case atStart=>exact⟨0,aw _,rfl,rfl,bR⟩
 case round=>
  obtain⟨j,C,rfl,rfl,b⟩:=hrel;by_cases l:j<n
  ·have a:=r.o.below b;have c1:=a.r.cell (i:=k) (by rw[e.o];exact c.o);have c2:=a.r.cell (i:=j) (by rw[e.o];omega);have z1:=af c1;have u:=g.o k;have D:=g.o j;have v:=tB (k:=j) (by omega);have E:py (og j):=py.bit (by omega);have x:py (og k):=py.bit (by have:=c.o;omega);have y:py (ofM f k j):=DD (by have:=c.o;omega) (by omega);have F:(j:Int)<(n:Int):=by omega
   have z:(j:Int)<8:=by omega
   have A:j<64:=by omega
   have B:(k:Int)<8:=by have:=c.o;omega
   have HB:=hI b;have dL:=hI l;clear a b l;cases o:(iY f k).testBit j
   ·have u9:=hI (X3 (f:=f) (k:=k) (j:=j) (.inl o));exact am9
   ·cases p:(iY f j).testBit k
    ·have u9:=hI (X3 (f:=f) (k:=k) (j:=j) (.inr p));exact am9
    ·have G:=hI (abq (f:=f) (k:=k) (j:=j) o p)
     go_wp2_with fail
     refine aM (by kernel_rfl) (by kernel_rfl) ?_
     repeat go_big_quiet_step (fail)
     refine wpQuiet_nil ?_;intro V dU;have ud:=hI (ag HB.o dU lR);clear dU c1 c2 z1;go_wp2
     go_roundw
     case rel=>exact⟨j+1,dL.o,by go_num,by rw[G.o],ud.o⟩
     case measure=>have:=dL.o;simp[intOf];omega
  ·obtain rfl:j=n:=by omega
   have HB:=hI b;clear b;go_wp2;go_ret;exact⟨rfl,HB.o⟩
theorem Tryz.aft:(Tryz.prog.info? 74).map (λi=>(i.zero,i.size,i.bytes))=some (some (.slice none 0 0),1,24):=by kernel_rfl
theorem afu:Xq Tryz.prog 44 74 1 24:=by
 obtain⟨i,hi,a,b,c⟩:=info_parts Tryz.aft;exact⟨Tryz.underlying44,⟨i,_,hi,a,b,c,rfl⟩,by decide,by decide⟩
def AP(gs:List (List Nat))(i:Nat):List Nat:=gs[i]?.getD []
structure jR (base:Nat) (W:World) (ov:Value) (gs:List (List Nat)) (vals:List Value):Prop where
 len:vals.length=gs.length
 own:W.ownsRow base 74 1 ov gs.length vals
 parts:∀i,i<gs.length->dw W (vals[i]?.getD undef) (AP gs i)
theorem jR.nil(base:Nat)(W:World):jR base W (.slice none 0 0) [] []:=⟨rfl,aZ _ _ _ _,λi hi=>ay hi (ax _)⟩
theorem jR.below{base:Nat}{ov:Value}{gs:List (List Nat)}{vals:List Value}(h:jR base W ov gs vals)(a:Below W.heap.size W W'):jR base W' ov gs vals:=
 ⟨h.len,gC h.own (CK.below a),λi hi=>(h.parts i hi).keep (lT.cB a)⟩
theorem jR.push{base:Nat}{ov a gv:Value}{gs:List (List Nat)}{vals:List Value}{g:List Nat}(h:jR base W ov gs vals)(k:dw W gv g)(l:W'.ownsRow base 74 1 a (gs.length+1) (vals++[gv]))(m:W.grownBy W' ov.ownBlock):jR base W' a (gs++[g]) (vals++[gv]):=by
 have j:lT W W':=λb cur f c=>(m.block b (gE c).1 (λe=>by
  rcases h.own.2 with⟨rfl,_⟩|⟨g',cap,n,rfl,_,d,_⟩
  ·cases e
  ·cases e;rw[c]at d;simp only[aL,Obj.cells.injEq]at d;exact ay d.2.1 (by decide))).trans c
 refine⟨by simp[h.len],by rw[az,aY];exact l,λi hi=> ?_⟩;rw[az,aY]at hi;unfold AP;by_cases e:i<gs.length
 ·rw[bM (by rw[h.len];exact e),bM e];exact(h.parts i e).keep j
 ·obtain rfl:i=gs.length:=by omega
  rw[bo (by rw[h.len];exact lR),bo lR,h.len,Nat.sub_self];exact k.keep j
theorem jR.at{base:Nat}{ov:Value}{gs:List (List Nat)}{vals:List Value}(h:jR base W ov gs vals)(a:gs.length<=1000):mA W W.heap.size ov (gs.map cX):=by
 refine⟨λi=>vals[i]?.getD undef,?_,λi hi=> ?_⟩
 ·have:=eS h.own (by omega) (c:=λi=>vals[i]?.getD undef) λi hi=>by
   rw[ae (by rw[h.len];omega)];rfl
  rw[aW];exact this
 ·rw[aW]at hi;have e:lu (gs.map cX) i=cX (AP gs i):=by
   unfold lu AP;rw[List.getElem?_map,ae hi];rfl
  rw[e];exact(h.parts i hi).ints
structure ME (w0:World) (n nb rb base:Nat) (f:List Nat) (gs:List (List Nat)) (D:Nat) (done:Nat->Bool) (ov:Value) (W:World):Prop where
 low:Below w0.heap.size w0 W
 box:X5 W nb rb n f
 bit:∀i,D.testBit i=done i
 u64:py D
 own:∃vals,jR base W ov gs vals
 bs:base<=W.heap.size
 ne:nb<base/\rb<base/\w0.heap.size<=base
theorem ME.below{w0:World}{nb rb base:Nat}{gs:List (List Nat)}{D:Nat}{done:Nat->Bool}{ov:Value}(h:ME w0 n nb rb base f gs D done ov W)(a:Below W.heap.size W W'):ME w0 n nb rb base f gs D done ov W':=by
 obtain⟨vals,b⟩:=h.own;exact⟨ag h.low a lR,h.box.below a,h.bit,h.u64,⟨vals,b.below a⟩,ai h.bs a.size,h.ne⟩
theorem ME.push{w0:World}{nb rb base:Nat}{gs:List (List Nat)}{D d:Nat}{done a:Nat->Bool}{ov b gv:Value}{vals:List Value}{g:List Nat}(h:ME w0 n nb rb base f gs D done ov W)(e:jR base W ov gs vals)(k:dw W gv g)
 (l:W'.ownsRow base 74 1 b (gs.length+1) (vals++[gv])) (j:W.grownBy W' ov.ownBlock) (m:∀i,d.testBit i=a i) (hu:py d):ME w0 n nb rb base f (gs++[g]) d a b W':=by
 have o:∀q,ov.ownBlock=some q->base<=q:=λq r=>(iI e.own q r).1;have c:Below base W W':=(Below.refl base W).grown j h.bs o;refine⟨h.low.trans (c.mono h.ne.2.2),⟨(c.cell (p:=⟨nb,0,none⟩) h.ne.1).trans h.box.n,(c.block rb h.ne.2.1).trans h.box.r⟩,m,hu,⟨_,e.push k l j⟩,ai h.bs c.size,h.ne⟩
def aiW:Value->Nat
 | .slice _ n _=>n
 |_=>0
theorem yO(hp:ez p=true)(v:Value)(w:World)(B:Nat)(hv:I0 w B v p)(hB:B<=w.heap.size):
 Calls Tryz.prog 95 #[v] w λe w'=>∃v' base vals,e=.returned v'/\jR base w' v' (eA p) vals/\Below w.heap.size w w':=by
 obtain⟨cv,fv,rv,rfl,hc,g,Z⟩:=hv;obtain⟨ca,cc,rfl⟩:=hc.slice;obtain⟨fa,fc,rfl⟩:=g.slice;obtain⟨ra,rc,rfl⟩:=Z.slice;have su:p.sig.bj.length<=8:=by
  exact anq
 obtain⟨l,o⟩:=qS w (.cells #[.slice ca p.sig.cons.length cc,.slice fa p.sig.bj.length fc,.slice ra p.rules.length rc] 42);obtain⟨H,HP,W,X,I⟩:=h_5 (Mz hp (.agg #[.slice ca p.sig.cons.length cc,.slice fa p.sig.bj.length fc,.slice ra p.rules.length rc]) _ w.heap.size ⟨_,_,_,rfl,(hc.mono hB).below l lR,(g.mono hB).below l lR,(Z.mono hB).below l lR⟩ l.size) hp l o su;clear hc g Z hp l o
 go_enter Tryz.func95,Tryz.ntmps95
 go_wp2_with fail
 refine H.o.mono ?_;rintro e J ⟨f,rfl,hlen,Z,hu,x⟩;have t:Hd (Gv (fg p) p.sig.bj.length f):=hI ⟨hlen,Z,λi j h=>by
  have c:=Z i j;exact(((mL (pT HP.o)).1 h).low (pT HP.o)),su,hu⟩
 have o:=cY x X.o;have x1:=eY o;have zx:=af x1;obtain⟨g,s,a⟩:=h_3 (tD hlen (a_ J (.cells (fR (List.replicate 8 0)).toArray 203)) rfl) (ag W.o x lR) o;clear hlen Z hu x X H o
 go_wp2_with (
  refine wpList_store_mid rfl 203 _ _ rfl _ _ _ rfl rfl g.o.1 g.o.2.1 (all_oneCell_toArray (wI _)) ?_;generalize Z:World.setCells _ _ _ _=u;have k2:jZ u J.heap.size f:=by rw[<-Z];exact g.o.2.2
  have y:Below J.heap.size J u:=by rw[<-Z];exact h_ lR _ _ _ (Below.cA _ _)
  have N:u.cell? ⟨w.heap.size,1,none⟩=some (.slice fa p.sig.bj.length fc):=(y.cell (p:=⟨w.heap.size,1,none⟩) zx).trans x1;have zx2:=af N;clear Z x1 zx)
 refine eR (λY=>ME w p.sig.bj.length u.heap.size J.heap.size (u.heap.size+1) f [] 0 (λ_=>false) (.slice none 0 0) Y) ?_ ?_
 ·exact⟨ag (ag s.o y lR) (Below.cA _ _) lR,⟨by rw[cell_of_row _ _ _ _ _ _ (a_ u (.cells #[.int .i64 ((p.sig.bj.length:Nat):Int)] 3))];rfl,k2.keep (Below.cA _ _)⟩,λi=>Nat.zero_testBit i,by show(0:Nat)<_;decide,⟨[],jR.nil _ _⟩,by simp,by have c:=y.size;have Z:=s.o.size;have o:=(gE k2).1;omega⟩
 clear N zx2 g s a y k2 W;generalize u.heap.size+1=base;generalize u.heap.size=nb;generalize J.heap.size=rb;rintro w5 o;have H5:=hI o;clear o;obtain⟨n,Z⟩:=xE p.sig.bj.length;have LC:Hd (IN (fg p) n=eA p):=hI (by rw[Z];rfl);rw[<-Z]at su I H5 t;clear Z
 go_loopw [6,7] (λdv ov wr=>∃(gs:List (List Nat)) (D:Nat) (done:Nat->Bool),dv=.int .u64 (D:Nat)/\gs.length<=n/\ME w n nb rb base f gs D done ov wr/\gs++jB (fg p) n (n-gs.length) done=eA p) (λ_ ov _=>n-aiW ov)
 case atStart=>exact⟨[],0,λ_=>false,rfl,aw _,H5.o,by rw[<-LC.o];rfl⟩
 case round=>
  obtain⟨gs,D,done,rfl,k_,g,o⟩:=hrel;obtain⟨wo,E8⟩:=xE wr;subst E8;obtain⟨vals,Z⟩:=g.own;obtain⟨va,vc,rfl⟩:=cr Z.own;have c4:=g.box.n;have z4:=af c4;obtain⟨O,z,uk⟩:=h_3 g o Z;clear g o Z;by_cases P:gs.length<n
  ·have om:(gs.length:Int)<(n:Int):=by omega
   have dL:=hI P;clear P;go_wp2;clear c4 z4
   go_loopw [8] (λkv wr=>∃k:Nat,k<=n/\kv=.int .i64 k/\(∀i,i<k->lK (fg p) n done i=false)/\Below wo.heap.size wo wr) (λkv _=>n-(intOf kv).toNat)
   case atStart=>exact⟨0,aw _,rfl,λi hi=>ay hi (ax _),bR⟩
   case round=>
    obtain⟨k,hk,rfl,g,Z⟩:=hrel;have b:=hI (O.o.below Z);have dK:=hI g;have c4:=b.o.box.n;have z4:=af c4;have ir:=hI Z;clear g Z;by_cases P:k<n
    ·have al8:(k:Int)<(n:Int):=by omega
     have hk8:(k:Int)<8:=by omega
     have A:k<64:=by omega
     have hsb:=tB A;have C:=hI (t.o.ready O.o.bit k);have hck:=b.o.box.r.cell (i:=k) (by rw[t.o.len];omega);have zk:=af hck;have huD:=O.o.u64;have X1:py (og k):=py.bit A;have huk:=t.o.u64 k;have Q:py (ofM f k n):=DD A (by omega);have S:=huD.or Q;have nk:=hI P;have E:Hd (∀V,Below wr.heap.size wr V->aH Tryz.prog 150 #[.int .i64 (k:Nat),.pointer (some ⟨nb,0,none⟩),.pointer (some ⟨rb,0,none⟩)] V (.int .u64 (ofM f k n:Nat))):=hI λV Z=>MD t.o (by have:=I.o;omega) V (b.o.box.below Z);have abv:Hd (∀d os,aH Tryz.prog 150 #[.int .i64 (k:Nat),.pointer (some ⟨nb,0,none⟩),.pointer (some ⟨rb,0,none⟩)] (Go.Sort.grow (redrawn wr d) os) (.int .u64 (ofM f k n:Nat))):=hI λd os=>E.o _ (below_regrown wr d os);clear P;cases l:D.testBit k
     ·cases x:(DZ (iY f k) (wO D (ofM f k n))==0)
      ·have HNR:Hd (lK (fg p) n done k=false):=hI (by rw[C.o,x];simp);exact amZ
      ·have HRK:Hd (lK (fg p) n done k=true):=hI (by rw[C.o,l,x];rfl);have FQ:((k:Int)==(n:Int))=false:=by rw[b5];intro hc;rw[b_]at hc;omega
       go_wp2_with fail
       refine aM (by kernel_rfl) (by kernel_rfl) ?_
       repeat go_big_quiet_step ((with_reducible exact aH.quiet (abv.o _ _)))
       refine wpQuiet_nil ?_;intro V dU;have jY:=hI (b.o.below dU);have c4:=jY.o.box.n;have z4:=af c4;have T:Hd (∀U,Below V.heap.size V U->aH Tryz.prog 150 #[.int .i64 (k:Nat),.pointer (some ⟨nb,0,none⟩),.pointer (some ⟨rb,0,none⟩)] U (.int .u64 (ofM f k n:Nat))):=hI λU Z=>E.o U (ag dU Z lR);clear dU hck zk E abv hsb l x X1 huk;go_wp2;clear c4 z4
       go_loopw [9,48] (λgv Z g=>∃j:Nat,j<=n/\Z=.int .i64 j/\g.ownsRow V.heap.size 3 1 gv (C1 (fg p) k j).length (cE (cX (C1 (fg p) k j)))/\Below V.heap.size V g) (λ_ Z _=>n-(intOf Z).toNat)
       case atStart=>exact⟨0,aw _,rfl,aZ _ _ _ _,bR⟩
       case round=>
        obtain⟨j,hj,rfl,K,a⟩:=hrel;obtain⟨ga,gc,rfl⟩:=cr K;by_cases VD:j<n
        ·have KZ:(j:Int)<(n:Int):=by omega
         have W:j<64:=by omega
         have hsj:=tB W;have huj:py (og j):=py.bit W;have X:Hd (∀d os,aH Tryz.prog 150 #[.int .i64 (k:Nat),.pointer (some ⟨nb,0,none⟩),.pointer (some ⟨rb,0,none⟩)] (Go.Sort.grow (redrawn wr d) os) (.int .u64 (ofM f k n:Nat))):=hI λd os=>T.o _ (ag a (below_regrown wr d os) lR);obtain⟨o,r,Z⟩:=h_3 VD K a;have k_:=MB (R:=fg p) k j;clear K a VD;cases y:(ofM f k n).testBit j
         ·have s:=hI (abt t.o y)
          go_wp2_with fail
          refine aM (by kernel_rfl) (by kernel_rfl) ?_
          repeat go_big_quiet_step ((with_reducible exact aH.quiet (X.o _ _)))
          refine wpQuiet_nil ?_;intro U a;have g:=hI (gC r.o (CK.below a));have X7:=hI (ag Z.o a lR);clear a;go_wp2
          go_roundw
          case rel=>exact⟨j+1,o.o,by go_num,by rw[s.o];exact g.o,X7.o⟩
          case measure=>have:=o.o;simp[intOf];omega
         ·have s:=hI (X4 t.o y)
          go_wp2_with fail
          refine aM (by kernel_rfl) (by kernel_rfl) ?_
          repeat go_big_quiet_step ((with_reducible exact aH.quiet (X.o _ _)))
          refine wpQuiet_nil ?_;intro U a;have F:=Below.cA U (.cells #[.int .i64 (j:Nat)] 3);obtain⟨g,X7,JJ⟩:=h_3 (gC r.o (CK.below (a.trans (F.mono a.size)))) (ag (ag Z.o a lR) F lR) (a_ U (.cells #[.int .i64 (j:Nat)] 3));clear a F;generalize C1 (fg p) k j=L at g s k_ |-
          go_wp2_with (at_builtin;refine lM rfl Cp _ _ rfl rfl g.o (q:=U.heap.size) (us:=[.int .i64 (j:Nat)]) rfl JJ.o rfl (one_one rfl) (by have:=I.o;omega) (by have:=X7.o.size;omega) ?_;intro v' w7 Cr Pc aa8;obtain⟨vb,vd,rfl⟩:=cr Cr;have HO7:=hI Cr;have yV:=hI (X7.o.grown Pc X7.o.size (λq hq=>(iI g.o q hq).1));clear Cr Pc aa8)
          go_roundw
          case rel=>exact⟨j+1,o.o,by go_num,by rw[s.o,kO,<-eZ,az,aY];exact HO7.o,yV.o⟩
          case measure=>have:=o.o;simp[intOf];omega
        ·obtain rfl:j=n:=by omega
         have HSU:=hI (jY.o.below a);rw[MA]at K |-;have r:=hI K;have H:=hI (T.o wr a);unfold aH at H;have o:Hd (∀i,(wO D (ofM f k j)).testBit i=(done i||(oE (fg p) j k).contains i)):=hI λi=>by rw[jw,O.o.bit i,t.o.grp nk.o]
         have s:=hI S;have W:=hI (JN (m:=j-gs.length-1) nk.o HRK.o dK.o);have k_:(oE (fg p) j k).length<=j:=by rw[<-MA];exact MB _ _
         clear K a;generalize ofM f k j=M at H o s Q S
         go_wp2_with fail
         refine H.o.mono ?_;rintro e w8 ⟨rfl,kM⟩;have F:=Below.cA w8 (.cells #[.slice ga (oE (fg p) j k).length gc] 74);obtain⟨g,JJ,X⟩:=h_3 ((HSU.o.below kM).below F) (a_ w8 (.cells #[.slice ga (oE (fg p) j k).length gc] 74)) (((dw.pF r.o (by have:=I.o;omega)).keep (lT.cB kM)).keep (lT.cB F));clear kM F;obtain⟨alF,Z⟩:=g.o.own;have zP:=hI Z;clear Z;generalize hG:oE (fg p) j k=G at JJ X W o k_ g zP |-;clear hG;have al9:=I.o
         go_wp2_with (at_builtin;refine lM rfl afu _ _ rfl rfl zP.o.own (q:=w8.heap.size) (us:=[.slice ga G.length gc]) rfl JJ.o rfl (one_one rfl) (by have:=I.o;omega) g.o.bs ?_;intro v' wA X8 Z akP;obtain⟨vb,vd,rfl⟩:=cr X8;have HPA:=hI (g.o.push zP.o X.o X8 Z o.o s.o);clear X8 Z akP)
         go_roundw
         case rel=>exact⟨gs++[G],wO D M,λi=>done i||G.contains i,rfl,by rw[az,aY];exact dL.o,HPA.o,by
          have c:=z.o;rw[show j-gs.length=(j-gs.length-1)+1 by have:=dL.o;omega,W.o]at c;rw[az,aY,show j-(gs.length+1)=j-gs.length-1 by omega,aG];exact c⟩
         case measure=>have:=dL.o;simp[aiW];omega
     ·have HNR:Hd (lK (fg p) n done k=false):=hI (by rw[C.o,l];simp);exact amZ
    ·obtain rfl:k=n:=by omega
     have g:gs=eA p:=by
      have c:=z.o;rw[show k-gs.length=(k-gs.length-1)+1 by have:=dL.o;omega,Pv dK.o,bk]at c;exact c
     obtain⟨X,Z⟩:=b.o.own;obtain⟨o,s,W⟩:=h_3 Z b.o.low g;clear g Z;go_wp2;go_ret;exact⟨_,_,_,rfl,by rw[<-W.o];exact o.o,s.o⟩
  ·have g:gs=eA p:=by
    have c:=z.o;rw[show n-gs.length=0 by omega]at c;rw[show jB (fg p) n 0 done=[]from rfl,bk]at c;exact c
   have o:=uk;have s:=hI O.o.low;have W:=hI g;obtain rfl:gs.length=n:=by omega
   clear g;go_wp2;go_ret;exact⟨_,_,_,rfl,by rw[<-W.o];exact o.o,s.o⟩
end
section
open Go Go.RowKit
theorem Pw:∀n,n<=8->(madeCells #[.int .i64 0,.int .i64 0,.slice none 0 0] (n*3)).toList=eF (List.replicate n default) (List.replicate n (.slice none 0 0)):=by
 intro n b;have e:∀k,(madeCells #[.int .i64 0,.int .i64 0,.slice none 0 0] k).toList=(List.range k).map λi=>if i % 3=2 then Value.slice none 0 0 else .int .i64 0:=λk=>by
  unfold madeCells;rw[Array.toList_map,Array.toList_range];refine List.map_congr_left λi _=> ?_;have a:i % 3=0\/i % 3=1\/i % 3=2:=by omega
  show(#[Value.int .i64 0,.int .i64 0,.slice none 0 0])[i % 3]! =_;rcases a with h|h|h<;>rw[h]<;>rfl
 rw[e];have:n=0\/n=1\/n=2\/n=3\/n=4\/n=5\/n=6\/n=7\/n=8:=by omega
 rcases this with rfl|rfl|rfl|rfl|rfl|rfl|rfl|rfl|rfl<;>rfl
theorem FC:∀{ts:List Nd} {ps:List Value} {i:Nat},ps.length=ts.length->i<ts.length->(eF ts ps)[i*3]? =some (.int .i64 (ts[i]?.getD default).a)/\(eF ts ps)[i*3+1]? =some (.int .i64 (ts[i]?.getD default).n)/\(eF ts ps)[i*3+2]? =some (ps[i]?.getD undef)
 |[],_,i,_,hi=>ay hi (ax _)
 |_::_,[],_,h,_=>by cases h
 |t::ts,p::ps,0,_,_=>⟨rfl,rfl,rfl⟩
 |t::ts,p::ps,i+1,h,hi=>by
  obtain⟨b,c,d⟩:=FC (ts:=ts) (ps:=ps) (i:=i) (by simpa using h) (by simpa using hi);have a:(i+1)*3=i*3+3:=by omega
  refine⟨?_,?_,?_⟩
  ·rw[a];exact b
  ·rw[a];exact c
  ·rw[a];exact d
theorem Cu:∀{ts:List Nd} {ps:List Value} {i:Nat} (t:Nd) (p:Value),ps.length=ts.length->i<ts.length->(((eF ts ps).set (i*3) (.int .i64 t.a)).set (i*3+1) (.int .i64 t.n)).set (i*3+2) p=eF (ts.set i t) (ps.set i p)
 |[],_,i,_,_,_,hi=>ay hi (ax _)
 |_::_,[],_,_,_,h,_=>by cases h
 |a::ts,b::ps,0,t,p,_,_=>rfl
 |a::ts,b::ps,i+1,t,p,h,hi=>by
  have c:=Cu (ts:=ts) (ps:=ps) (i:=i) t p (by simpa using h) (by simpa using hi);have d:(i+1)*3=i*3+3:=by omega
  rw[d];show _=[Value.int .i64 a.a,.int .i64 a.n,b]++eF (ts.set i t) (ps.set i p);rw[<-c];rfl
structure sg (w:World) (tb:Nat) (types:List Nd) (ps:List Value):Prop where
 fW:w.heap[tb]? =some (.cells (eF types ps).toArray 26 (0,0))
 len:ps.length=types.length
 parts:∀i,i<types.length->iJ (λb _=>b≠tb) w (ps[i]?.getD undef) (types[i]?.getD default).k
theorem sg.lt{tb:Nat}{types:List Nd}{ps:List Value}(h:sg w tb types ps):tb<w.heap.size:=(gE h.fW).1
theorem sg.below{tb:Nat}{types:List Nd}{ps:List Value}(h:sg w tb types ps)(a:Below w.heap.size w w'):sg w' tb types ps:=
 ⟨bQ h.fW a h.lt,h.len,λi hi=>(h.parts i hi).keep (gN.below a)⟩
theorem sg.aiZ{tb:Nat}{types:List Nd}{ps:List Value}(h:sg w tb types ps)(c:types.length<=1000):dr w w.heap.size (.slice (some ⟨tb,0,none⟩) types.length types.length) (Fo.of types):=by
 refine⟨λi=>(eF types ps)[i]?.getD undef,?_,?_⟩
 ·rw[Fo.p7];refine⟨by omega,_,_,rfl,lR,by unfold maxLen;omega,λ_=>⟨tb,0,rfl,h.lt,λi hi=> ?_⟩⟩;rw[a8,cell_of_row _ _ _ _ _ _ h.fW,aF];show _=some ((eF types ps)[i]?.getD undef);rw[ae (by rw[nP h.len];exact hi)];rfl
 ·exact(Jp (S:=λb _=>b≠tb) h.len (λi hi=>by rw[ae (by rw[nP h.len];exact hi)];rfl) h.parts).cells (λb o a _=>(gE a).1)
theorem sg.set{tb:Nat}{types:List Nd}{ps:List Value}(h:sg w tb types ps)(hi:i<types.length){t:Nd}{p:Value}(hp:iJ (λb _=>b≠tb) w p t.k):
 sg (((w.setCell ⟨tb,i*3,none⟩ (.int .i64 t.a)).setCell ⟨tb,i*3+1,none⟩ (.int .i64 t.n)).setCell ⟨tb,i*3+2,none⟩ p) tb (types.set i t) (ps.set i p):=by
 have c:gN (λb _=>b≠tb) w (((w.setCell ⟨tb,i*3,none⟩ (.int .i64 t.a)).setCell ⟨tb,i*3+1,none⟩ (.int .i64 t.n)).setCell ⟨tb,i*3+2,none⟩ p):=λb o a f=>
  (au _ _ _ _ a).trans ((au _ _ _ _ a).trans ((au _ _ _ _ a).trans f))
 refine⟨?_,by rw[List.length_set,List.length_set];exact h.len,λj d=> ?_⟩
 ·rw[cz (cz (cz h.fW))];simp only[bG];rw[Cu t p h.len hi]
 ·rw[List.length_set]at d;rw[List.getElem?_set,List.getElem?_set];by_cases e:i=j
  ·subst e;rw[aq rfl,aq rfl,aq (by rw[h.len];exact hi),aq hi];exact hp.keep c
  ·rw[ah e,ah e];exact(h.parts j d).keep c
theorem yy.at{S:Nat->Obj->Prop}:∀{F:Fo} {c:Nat->Value} {i:Nat},yy S w F c->i<F.len->c (i*3)=.int .i64 (F.at i).a/\c (i*3+1)=.int .i64 (F.at i).n/\iJ S w (c (i*3+2)) (F.at i).k
 | .nil,_,_,_,hi=>ay hi (ax _)
 | .cons a n k r,c,0,h,_=>⟨h.1,h.2.1,h.2.2.1⟩
 | .cons a n k r,c,i+1,h,hi=>by
  have:=yy.at (F:=r) (i:=i) h.2.2.2 (Nat.lt_of_succ_lt_succ hi);have b:(i+1)*3=i*3+3:=by omega
  rw[b];exact this
theorem iJ.cell{S:Nat->Obj->Prop}{v:Value}{F:Fo}(h:iJ S w v F)(i:k<F.len):
 ∃b off cap p d,v=.slice (some ⟨b,off,none⟩) F.len cap/\b<w.heap.size/\w.cell? ⟨b,off+k*3,none⟩=some (.int .i64 (F.at k).a)/\w.cell? ⟨b,off+k*3+1,none⟩=some (.int .i64 (F.at k).n)/\
  w.cell? ⟨b,off+k*3+2,none⟩=some (.slice p (F.at k).k.len d)/\iJ S w (.slice p (F.at k).k.len d) (F.at k).k:=by
 obtain⟨c,⟨_,a,cap,rfl,_,_,j⟩,hc⟩:=h;obtain⟨b,off,o,rfl,_,l,e⟩:=j (by omega);obtain⟨m,n,f⟩:=hc.at i;obtain⟨p,d,g⟩:=f.slice;rw[g]at f;refine⟨b,off,cap,p,d,rfl,(gE l).1,?_,?_,?_,f⟩
 ·rw[e _ (by omega),m]
 ·rw[bN,e _ (by omega),n]
 ·rw[bN,e _ (by omega),g]
end
end Go.Proofs.YtnicceekibancaaGreat
