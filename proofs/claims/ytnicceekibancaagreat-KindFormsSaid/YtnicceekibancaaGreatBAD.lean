/- Lemmas: IterB IterC ProC ProD Fix ProE ProF KuV TeA TeB TeC TeD IterD TeE GrA GrB GrD0 GrS GrF GrG. -/
import Derived.Test.YtnicceekibancaaGreatBZ
import Derived.Test.YtnicceekibancaaGreatBAC
import Derived.RangeFuncLeaves
import Derived.Test.YtnicceekibancaaGreatBAB
import Derived.Deep.Cut
import Derived.Test.YtnicceekibancaaGreatBAA
import Derived.OwnWalk
set_option linter.all false
set_option maxRecDepth 100000
set_option maxHeartbeats 8000000
namespace Go.Proofs.YtnicceekibancaaGreat
variable{E:Nat->Prop}{g:Gr}{n x:Nat}{r:Option Nat}
section
open Go Go.RowKit
attribute [local go_sem] aT cW df
theorem Ln(l L c:Nat)(w0:World)(s:c<=w0.heap.size)(u:c<=L)(all:List Nd)(J g:List Nd->World->Prop)
 (i:∀pre W W',J pre W->Below W.heap.size W W'->J pre W') (hB:∀pre W,J pre W->Below c w0 W)
 (k:∀pre t post v W,pre++t::post=all->J pre W->cV w0 c v t->YieldAt Fence.wide 0 Tryz.prog l #[v] W λe W'=>(e=.returned (.bool true)/\J (pre++[t]) W'/\cq L W W')\/(e=.returned (.bool false)/\g (pre++[t]) W'))
 (t:Nd) (a:Option Addr) (len cap j:Nat) (W:World) (m:cV w0 c (.agg #[.int .i64 t.a,.int .i64 t.n,.slice a len cap]) t) (n:dM t=all)
 (hc:W.heap[j]? =some (.cells #[.int .i64 t.a,.int .i64 t.n,.slice a len cap] 26 (0,0))) (o:J [] W) (p:L<=W.heap.size):
 Calls Tryz.prog 225 #[.func (.yield l) #[] #[],.pointer (some ⟨j,0,none⟩)] W λe W'=>(∃v,e=.returned v)/\(J all W'\/∃q,g q W'):=by
 have y:∀args w,(callFunc 226 args).run Tryz.prog w=.ok (.enter 226 args) w:=enters_of Tryz.func226 (by kernel_rfl) rfl;have x:Hd (∀V,Below W.heap.size W V->V.heap[W.heap.size]? =some (.cells #[.func (.yield l) #[] #[]] 80 (0,0))->V.heap[W.heap.size+1]? =some (.cells #[.func (.func 226) #[] #[.pointer (some ⟨W.heap.size,0,none⟩),.pointer (some ⟨W.heap.size+1,0,none⟩)]] 80 (0,0))->
  Calls Tryz.prog 226 #[.agg #[.int .i64 t.a,.int .i64 t.n,.slice a len cap],.pointer (some ⟨W.heap.size,0,none⟩),.pointer (some ⟨W.heap.size+1,0,none⟩)] V λe W'=>∃b,e=.returned (.bool b)/\(J all W'\/∃q,g q W')):=hI λV r d f=>
  (Lm l L c w0 s u all J g i hB k W.heap.size (W.heap.size+1) p (by omega) _ t _ [] [] V lR m (by simpa using n) (i _ _ _ o r) (ai p r.size) d f).mono λe W' h=>
   h.elim (fun⟨d,f,_⟩=>⟨true,d,.inl (by rw[<-n];exact f)⟩) fun⟨d,f⟩=>⟨false,d,.inr f⟩
 have c0:=cZ hc;have c1:=eY hc;have c2:=fu hc;have r:j<W.heap.size:=af c0;clear i hB k o m hc
 go_enter Tryz.func225,Tryz.ntmps225
 go_wp2_with fail
 refine(x.o _ (Below.jE _ _ _) (cH _ _ _).1 (cH _ _ _).2).mono ?_;rintro e i ⟨b,rfl,d⟩;have f:=hI d;clear d;go_wp2
 go_end0
 exact⟨⟨_,rfl⟩,f.o⟩
theorem VZ(l L c:Nat)(w0:World)(s:c<=w0.heap.size)(u:c<=L)(all:List Nd)(J g:List Nd->World->Prop)
 (i:∀pre W W',J pre W->Below W.heap.size W W'->J pre W') (hB:∀pre W,J pre W->Below c w0 W)
 (k:∀pre t post v W,pre++t::post=all->J pre W->cV w0 c v t->YieldAt Fence.wide 0 Tryz.prog l #[v] W λe W'=>(e=.returned (.bool true)/\J (pre++[t]) W'/\cq L W W')\/(e=.returned (.bool false)/\g (pre++[t]) W'))
 (t:Nd) (a:Option Addr) (len cap j:Nat) (W:World) (m:cV w0 c (.agg #[.int .i64 t.a,.int .i64 t.n,.slice a len cap]) t) (n:dM t=all)
 (hc:W.heap[j]? =some (.cells #[.int .i64 t.a,.int .i64 t.n,.slice a len cap] 54 (0,0))) (o:J [] W) (p:L<=W.heap.size):
 Calls Tryz.prog 230 #[.func (.yield l) #[] #[],.pointer (some ⟨j,0,none⟩)] W λe W'=>(∃v,e=.returned v)/\(J all W'\/∃q,g q W'):=by
 have y:∀args w,(callFunc 231 args).run Tryz.prog w=.ok (.enter 231 args) w:=enters_of Tryz.func231 (by kernel_rfl) rfl;have x:Hd (∀V,Below W.heap.size W V->V.heap[W.heap.size]? =some (.cells #[.func (.yield l) #[] #[]] 56 (0,0))->V.heap[W.heap.size+1]? =some (.cells #[.func (.func 231) #[] #[.pointer (some ⟨W.heap.size,0,none⟩),.pointer (some ⟨W.heap.size+1,0,none⟩)]] 56 (0,0))->
  Calls Tryz.prog 231 #[.agg #[.int .i64 t.a,.int .i64 t.n,.slice a len cap],.pointer (some ⟨W.heap.size,0,none⟩),.pointer (some ⟨W.heap.size+1,0,none⟩)] V λe W'=>∃b,e=.returned (.bool b)/\(J all W'\/∃q,g q W')):=hI λV r d f=>
  (Ll l L c w0 s u all J g i hB k W.heap.size (W.heap.size+1) p (by omega) _ t _ [] [] V lR m (by simpa using n) (i _ _ _ o r) (ai p r.size) d f).mono λe W' h=>
   h.elim (fun⟨d,f,_⟩=>⟨true,d,.inl (by rw[<-n];exact f)⟩) fun⟨d,f⟩=>⟨false,d,.inr f⟩
 have c0:=cZ hc;have c1:=eY hc;have c2:=fu hc;have r:j<W.heap.size:=af c0;clear i hB k o m hc
 go_enter Tryz.func230,Tryz.ntmps230
 go_wp2_with fail
 refine(x.o _ (Below.jE _ _ _) (cH _ _ _).1 (cH _ _ _).2).mono ?_;rintro e i ⟨b,rfl,d⟩;have f:=hI d;clear d;go_wp2
 go_end0
 exact⟨⟨_,rfl⟩,f.o⟩
def fM(b:Nat)(W W':World):Prop:=W'.os=W.os/\W'.tape=W.tape/\W'.output=W.output/\W'.heap.size=W.heap.size/\∀k,k≠b->W'.heap[k]? =W.heap[k]?
theorem fM.put(b:Nat)(W:World)(o:Obj):fM b W (W.putObj b o):=⟨rfl,rfl,rfl,by simp,λ_ h=>aA h⟩
def ad1(L:Nat)(I:List Nd->World->Prop)(a:Code->List Nd->World->Prop)(xs:List Nd)(W:World):Exit->Act->World->Prop
 | .normal,_,W'=>cq L W W'/\I xs W'
 | .ret,_,W'=>cq L W W'/\a .ret xs W'
 | .exit id,_,W'=>cq L W W'/\a (.exit id) xs W'
 |_,_,_=>False
theorem Dg{g:Operand}{p:Tmp}{assign body:Code}{Q:Exit->Act->World->Prop}{a:Act}{w:World}(f1:FuncId)(caps:Array Value)(r:Value->Nd->Prop)(all:List Nd)
 (u:a.eval g=.func (.func f1) #[] caps) (y:∀args w,(callFunc f1 args).run Tryz.prog w=.ok (.enter f1 args) w)
 (I:List Nd->World->Prop) (f:Code->List Nd->World->Prop)
 (hI:∀pre W W',I pre W->Below W.heap.size W W'->I pre W') (hI2:∀pre W W',I pre W->fM (w.heap.size+1) W W'->I pre W') (N6:∀c pre W W',f c pre W->fM (w.heap.size+1) W W'->f c pre W')
 (z:I [] w)
 (A:∀(J s:List Nd->World->Prop),(∀pre W W',J pre W->Below W.heap.size W W'->J pre W')->(∀pre W,J pre W->I pre W)->(∀pre x,(∀W,I pre W->I (pre++[x]) W)->∀W,J pre W->J (pre++[x]) W)->
  (∀pre t post v W,pre++t::post=all->J pre W->r v t->YieldAt Fence.wide 0 Tryz.prog (w.heap.size+1) #[v] W λe W'=>(e=.returned (.bool true)/\J (pre++[t]) W'/\cq w.heap.size W W')\/(e=.returned (.bool false)/\s (pre++[t]) W'))->
  ∀W,J [] W->w.heap.size<=W.heap.size->Calls Tryz.prog f1 (#[.func (.yield (w.heap.size+1)) #[] #[]]++caps) W λe W'=>(∃v,e=.returned v)/\(J all W'\/∃q,s q W'))
 (B:∀(pre:List Nd) (t:Nd) (post:List Nd) (v:Value) (W:World),pre++t::post=all->I pre W->r v t->w.heap.size+1<W.heap.size->assign.wpIn (Fence.wide.inRound (w.heap.size+1)) (n-1-1) Tryz.prog
  (Exit.then (λG W'=>Below W.heap.size W W'/\∀W2,fM (w.heap.size+1) W' W2->body.wpIn (Fence.wide.inRound (w.heap.size+1)) (n-1-1) Tryz.prog (ad1 w.heap.size I f (pre++[t]) W2) G W2) (λ_ _ _=>False))
  { tmps:=((#[p]:Array Tmp).zip #[v]).foldl (λt (p,v)=>t.setIfInBounds p v) a.tmps,defers:=[]} W)
 (xg:∀(D:Nat) (W:World),w.heap.size<=D->I all W->W.heap[D]? =some (.deferred (some []))->Q .normal { a with defers:={ target:=.collected D,args:= #[]}::a.defers} W)
 (V7:∀(D:Nat) (c:Code) (pre:List Nd) (W:World),w.heap.size<=D->f c pre W->W.heap[D]? =some (.deferred (some []))->c.wpIn Fence.wide n Tryz.prog Q { a with defers:={ target:=.collected D,args:= #[]}::a.defers} W):
 (Code.rangeFunc g #[p] assign body).wpIn Fence.wide n Tryz.prog Q a w:=by
 refine wpIn_rangeFunc ?_;intro fn C;obtain⟨rec,sU⟩:∃rec:LoopState->Option Code->Loop,rec=λst G=>{ state:=st,pending:=G,fn,tmps:=a.tmps,params:= #[p],assign,body,defers:=w.heap.size}:=⟨_,rfl⟩;obtain⟨d,i⟩:∃d,(w.alloc (.deferred (some []))).alloc (.loop (rec .ready none))=d:=⟨_,rfl⟩;have j:d.heap[w.heap.size+1]? =some (.loop (rec .ready none)):=by rw[<-i];exact(cH _ _ _).2
 have k:d.heap[w.heap.size]? =some (.deferred (some [])):=by rw[<-i];exact(cH _ _ _).1
 have l:I [] d:=by rw[<-i];exact hI _ _ _ z (Below.jE _ _ _)
 have H:d.heap.size=w.heap.size+2:=by rw[<-i];simp
 refine⟨w.heap.size+1,[{ target:=.collected w.heap.size,args:= #[]}],d,{ target:=.fn (.func f1) caps,args:= #[.func (.yield (w.heap.size+1)) #[] #[]]},d,f1,
  #[.func (.yield (w.heap.size+1)) #[] #[]]++caps,d,?_,?_,?_,?_,(λh=>by cases h),?_⟩
 ·rw[<-i,sU];exact run_enterLoop_outer _ _ _ _ _
 ·simp only[resolve,u];simp[go_sem]
 ·intro G _;trivial
 ·simp[invoke,go_sem,y]
 ·refine(callsIn_wide.2 (A
   (λpre W=>I pre W/\W.heap[w.heap.size+1]? =some (.loop (rec .ready none))/\W.heap[w.heap.size]? =some (.deferred (some [])))
   (λpre W=>∃c,f c pre W/\W.heap[w.heap.size+1]? =some (.loop (rec .done (some c)))/\W.heap[w.heap.size]? =some (.deferred (some [])))
   (λpre W W' ⟨G,b,o⟩ hb=>⟨hI _ _ _ G hb,cY hb b,cY hb o⟩)
   (λpre W h=>h.1) (λpre x G W h=>⟨G W h.1,h.2⟩) ?_ d ⟨l,j,k⟩ (by omega))).mono ?_
  ·rintro pre t post v W he ⟨hi,hl,hk⟩ E;have bO:w.heap.size+1<W.heap.size:=(gE hl).1;have hy:=run_yield (P:=Tryz.prog) (args:= #[v]) hl (by rw[sU];rfl);rw[sU]at hy;refine jo (F:=Fence.wide) (m:=n-1-1) rfl 0 ⟨fn,_,assign,body,hy,roundIn_of_wpIn C ?_⟩;refine wpIn_mono (B pre t post v W he hi E bO) ?_;exact amq
  ·exact amY
mutual
theorem EF:∀F:Fo,(iU F).length=F.size
 | .nil=>rfl
 | .cons a n k r=>by unfold iU Fo.size;rw[aD,az,EF k,EF r];omega
end
theorem EG(t:Nd):(dM t).length=t.size:=by unfold dM Nd.size;rw[aD,EF];omega
theorem EH(p:Int->Int->Nat->Bool):∀F:Fo,ou p F=(iU F).all λx=>p x.a x.n x.k.len
 | .nil=>rfl
 | .cons a n k r=>by
  unfold ou iU;rw[List.all_cons,List.all_append,<-EH p k,<-EH p r,Bool.and_assoc]
theorem pW(p:Int->Int->Nat->Bool)(t:Nd):ew p t=(dM t).all λx=>p x.a x.n x.k.len:=by
 unfold ew dM;rw[List.all_cons,<-EH]
theorem He(a n:Int)(k:Value)(w:World)(len cap:Nat)(b:Option Addr)(c:k=.slice b len cap):Calls Tryz.prog 186 #[.agg #[.int .i64 a,.int .i64 n,k]] w λe w'=>
 e=.returned (.func (.func 225) #[] #[.pointer (some ⟨w.heap.size,0,none⟩)])/\w'=w.alloc (.cells #[.int .i64 a,.int .i64 n,k] 26):=by
 subst c
 go_enter Tryz.func186,Tryz.ntmps186
 go_wp2;go_ret;exact⟨rfl,rfl⟩
theorem Sa(a n:Int)(k:Value)(w:World)(len cap:Nat)(b:Option Addr)(c:k=.slice b len cap):Calls Tryz.prog 199 #[.agg #[.int .i64 a,.int .i64 n,k]] w λe w'=>
 e=.returned (.func (.func 230) #[] #[.pointer (some ⟨w.heap.size,0,none⟩)])/\w'=w.alloc (.cells #[.int .i64 a,.int .i64 n,k] 54):=by
 subst c
 go_enter Tryz.func199,Tryz.ntmps199
 go_wp2;go_ret;exact⟨rfl,rfl⟩
structure Fix (E:Nat->Prop) (A W:World):Prop where
 os:W.os=A.os
 tape:W.tape=A.tape
 output:W.output=A.output
 size:A.heap.size<=W.heap.size
 block:∀b,b<A.heap.size->¬E b->W.heap[b]? =A.heap[b]?
theorem Fix.refl(E:Nat->Prop)(A:World):Fix E A A:=⟨rfl,rfl,rfl,lR,λ_ _ _=>rfl⟩
theorem Fix.below{A W W':World}(h:Fix E A W)(a:Below W.heap.size W W'):Fix E A W':=
 ⟨a.os.trans h.os,a.tape.trans h.tape,a.output.trans h.output,ai h.size a.size,λb c d=>(a.block b (aC c h.size)).trans (h.block b c d)⟩
theorem Fix.same{A W W':World}{b:Nat}(h:Fix E A W)(a:fM b W W')(e:A.heap.size<=b):Fix E A W':=
 ⟨a.1.trans h.os,a.2.1.trans h.tape,a.2.2.1.trans h.output,by rw[a.2.2.2.1];exact h.size,λk c d=>(a.2.2.2.2 k (by omega)).trans (h.block k c d)⟩
theorem Fix.toBelow{A W:World}(h:Fix E A W)(c:n<=A.heap.size)(a:∀b,E b->n<=b):Below n A W:=
 ⟨h.os,h.tape,h.output,h.size,λb d=>h.block b (by omega) λhe=>by have:=a b he;omega⟩
theorem Fix.setCell{A W:World}(h:Fix E A W){p:Addr}(hp:E p.block)(v:Value):Fix E A (W.setCell p v):=
 ⟨h.os,h.tape,h.output,by simpa [World.setCell] using h.size,λb c a=>(au _ _ _ _ (λe=>a (by rw[e];exact hp))).trans (h.block b c a)⟩
theorem Fix.trans{A W W':World}(h:Fix E A W)(h':Fix E W W'):Fix E A W':=
 ⟨h'.os.trans h.os,h'.tape.trans h.tape,h'.output.trans h.output,ai h.size h'.size,λb a c=>(h'.block b (aC a h.size) c).trans (h.block b a c)⟩
theorem Fix.cB{A W:World}(h:Below A.heap.size A W):Fix E A W:=(Fix.refl E A).below h
end
section
open Go Go.RowKit
theorem wm(f:FuncId):Fence.wide.fn f=True:=rfl
theorem m7:Fence.wide.depth=none:=rfl
attribute [local go_sem] aT cW df Oper.semAt_some wm m7
theorem sV{b:Nat}{A W W':World}(h:Below n A W)(a:fM b W W')(d:n<=b):Below n A W':=
 ⟨a.1.trans h.os,a.2.1.trans h.tape,a.2.2.1.trans h.output,by rw[a.2.2.2.1];exact h.size,λk c=>(a.2.2.2.2 k (by omega)).trans (h.block k c)⟩
theorem Hf(ds:List fV)(t:Nd)(dv v:Value)(w:World)(B:Nat)(P:eB w B dv ds)(K:cV w B v t)(hB:B<=w.heap.size):
 aH Tryz.prog 130 #[dv,v] w (.bool (dB ds 20 t)):=by
 have HD:=hI (P.mono hB);have HV:=hI (K.mono hB);obtain⟨L,dc,rfl⟩:=P.slice;obtain⟨kv,rfl,k⟩:=K;have fK:=k.small;obtain⟨ka,kc,rfl⟩:=k.slice;clear P k;unfold aH;refine callsIn_wide.1 (callsIn_of_wp_marks (n:=0) Tryz.func130 rfl trivial (wpIn_wide.2 ?_) rfl);simp only[Tryz.ntmps130,List.size_toArray,aD,List.length_nil,Nat.reduceAdd,Nat.reduceSub,Array.replicate_succ,Array.replicate_zero,List.push_toArray,List.append_toArray,bL,bJ]
 go_wp2_with (go_at_call 186;refine(He _ _ _ _ _ _ _ rfl).mono ?_;rintro e w' ⟨rfl,rfl⟩)
 obtain⟨d,f⟩:=xE (((((w.alloc (.cells #[.slice L ds.length dc] 22)).alloc (.cells #[.int .i64 t.a,.int .i64 t.n,.slice ka t.k.len kc] 26)).alloc (.cells #[.bool false] 4)).alloc (.cells #[.int .i64 0] 3)).alloc (.cells #[.int .i64 t.a,.int .i64 t.n,.slice ka t.k.len kc] 26));have k:=GN w (.cells #[.slice L ds.length dc] 22) (.cells #[.int .i64 t.a,.int .i64 t.n,.slice ka t.k.len kc] 26) (.cells #[.bool false] 4) (.cells #[.int .i64 0] 3) (.cells #[.int .i64 t.a,.int .i64 t.n,.slice ka t.k.len kc] 26);have J:=Below.ahg w (.cells #[.slice L ds.length dc] 22) (.cells #[.int .i64 t.a,.int .i64 t.n,.slice ka t.k.len kc] 26) (.cells #[.bool false] 4) (.cells #[.int .i64 0] 3) (.cells #[.int .i64 t.a,.int .i64 t.n,.slice ka t.k.len kc] 26);have i:d.heap.size=w.heap.size+5:=by rw[f];simp
 rw[<-f]at k J |-;obtain⟨l,r,g,j,m⟩:=k;obtain⟨J7,lX,kI,oy,Q,a⟩:=h_6 l g j m J i;have HX:Hd (cV d w.heap.size (.agg #[.int .i64 t.a,.int .i64 t.n,.slice ka t.k.len kc]) t):=hI (HV.o.below J lR);have q:∀(pre:List Nd) W,(Fix (λb=>b=w.heap.size+3) d W/\W.heap[w.heap.size+3]? =some (.cells #[.int .i64 ((pre.length:Nat):Int)] 3 (0,0))/\pre.length<=20/\pre.all (λx=>dA ds 20 x.a x.n x.k.len)=true)->Below w.heap.size d W:=λpre W h=>h.1.toBelow (by have:=a.o;omega) λb e=>by omega
 have R:=hI q;clear l r g j m J i f q;refine wpIn_wide.1 (Dg (n:=0) 225 #[.pointer (some ⟨w.heap.size+1+1+1+1,0,none⟩)] (cV d w.heap.size) (dM t) rfl (enters_of Tryz.func225 (by kernel_rfl) rfl)
  (λpre W=>Fix (λb=>b=w.heap.size+3) d W/\W.heap[w.heap.size+3]? =some (.cells #[.int .i64 ((pre.length:Nat):Int)] 3 (0,0))/\pre.length<=20/\pre.all (λx=>dA ds 20 x.a x.n x.k.len)=true)
  (λc pre W=>c=.ret/\W.heap[w.heap.size+2]? =some (.cells #[.bool false] 4 (0,0))/\Below w.heap.size d W/\dB ds 20 t=false)
  (λpre W W' h g=>⟨h.1.below g,cY g h.2.1,h.2.2⟩)
  (λpre W W' h f=>⟨h.1.same f (by omega),(f.2.2.2.2 _ (by have:=a.o;omega)).trans h.2.1,h.2.2⟩)
  (λc pre W W' h f=>⟨h.1,(f.2.2.2.2 _ (by have:=a.o;omega)).trans h.2.1,sV h.2.2.1 f (by have:=a.o;omega),h.2.2.2⟩)
  ⟨Fix.refl _ _,kI.o,by simp,rfl⟩
  (λJ j m i _ q W l r=>Ln _ _ w.heap.size d (by have:=a.o;omega) (by have:=a.o;omega) (dM t) J j m (λpre W h=>R.o pre W (i pre W h)) q t ka t.k.len kc (w.heap.size+4) W HX.o rfl (((i _ _ l).1.block _ (by have:=a.o;omega) (by omega)).trans oy.o) l r)
  ?round ?done ?stop)
 case round=>
  intro pre x post v W he hi K bO;obtain⟨xv,rfl,Kb⟩:=K;obtain⟨S,T,rfl⟩:=Kb.slice
  gi_wp2
  refine⟨Below.cA _ _,λi l=> ?_⟩;obtain⟨m,H,hle,j⟩:=hi;have I:=Below.cA W (.cells #[.int .i64 x.a,.int .i64 x.n,.slice S x.k.len T] 26);have q:=(m.below I).same l (by omega);have U:=R.o pre W ⟨m,H,hle,j⟩;have E:i.heap[w.heap.size+3]? =some (.cells #[.int .i64 ((pre.length:Nat):Int)] 3 (0,0)):=(l.2.2.2.2 _ (by have:=a.o;omega)).trans (cY I H);have F:i.heap[W.heap.size]? =some (.cells #[.int .i64 x.a,.int .i64 x.n,.slice S x.k.len T] 26 (0,0)):=(l.2.2.2.2 _ (by have:=m.size;omega)).trans (a_ _ _);have M:=(q.block _ (show w.heap.size<d.heap.size by have:=a.o;omega) (by omega)).trans J7.o;have r:=(q.block _ (show w.heap.size+2<d.heap.size by have:=a.o;omega) (by omega)).trans lX.o;have DS:=R.o;have gP:i.heap.size=W.heap.size+1:=by rw[l.2.2.2.1];simp
  have c3:=cZ E;have f3:i.frozen? ⟨w.heap.size+1+1+1,0,none⟩=false:=by simp[World.frozen?,E]
  have x0:=cZ F;have x1:=eY F;have x2:=fu F;have dd:=cZ M;have rr:=cZ r;have fr:i.frozen? ⟨w.heap.size+1+1,0,none⟩=false:=by simp[World.frozen?,r]
  have z3:=af c3;have zx:=af x0;have zd:=af dd;have zr:=af rr;have Qv:pre.length+1<=(dM t).length:=by rw[<-he];simp
  have n1:¬(W.heap.size=w.heap.size+1+1+1):=by have:=m.size;have:=a.o;omega
  have n2:¬(w.heap.size+1+1+1=W.heap.size):=λe=>n1 e.symm;by_cases k:pre.length<20
  ·have nX:decide ((20:Int)<(pre.length:Int)+1)=false:=by simp;omega
   have s:Fix (λb=>b=w.heap.size+3) d (i.setCell ⟨w.heap.size+1+1+1,0,none⟩ (.int .i64 ((pre.length:Int)+1))):=q.setCell (p:=⟨w.heap.size+1+1+1,0,none⟩) rfl _;have J:=s.toBelow (n:=w.heap.size) (by have:=a.o;omega) (λb e=>by omega);have u:=cz (o:=0) (v:=.int .i64 ((pre.length:Int)+1)) E;have y:(i.setCell ⟨w.heap.size+1+1+1,0,none⟩ (.int .i64 ((pre.length:Int)+1))).heap[w.heap.size+2]? =some (.cells #[.bool false] 4 (0,0)):=(au _ _ _ _ (by simp)).trans r;have HC:=hI (R9 ds x.a x.n x.k (.slice L ds.length dc) (.slice S x.k.len T) _ w.heap.size ((HD.o.below Q.o lR).below J lR) (Kb.below J lR) (by have:=J.size;have:=a.o;omega))
   gi_wp2
   refine(CallsIn.inRound _ (callsIn_wide.2 HC.o)).mono ?_;rintro e W4 ⟨rfl,z⟩;have V:=cY z u;have f:=cY z y;have c4:=cZ f;have f4:W4.frozen? ⟨w.heap.size+1+1,0,none⟩=false:=by simp[World.frozen?,f]
   have z4:=af c4;have X:cq d.heap.size i W4:=⟨by have:=z.size;simpa [World.setCell] using this,λb o g G=>bQ ((au _ _ _ _ (by have:=a.o;show b≠w.heap.size+1+1+1;omega)).trans G) z (by have:=(gE G).1;simpa [World.setCell] using this)⟩;have A:=s.below z;obtain⟨Y,N,H3,H2,HE,Z⟩:=h_6 X A V f he j;cases O:dA ds 20 x.a x.n x.k.len with
   |true=>
    have C:=hI O;clear X A V f he j q U E F M r s J u y z m H I l O
    gi_wp2
    exact⟨Y.o,N.o,by rw[H3.o,az];rfl,by rw[az,aY];omega,by rw[List.all_append,Z.o];simp[C.o]⟩
   |false=>
    have C:=hI O;clear X A V f he j q U E F M r s J u y z m H I l O
    gi_wp2
    refine⟨⟨by simpa [World.setCell] using Y.o.1,λb o g G=>(au _ _ _ _ (by have:=a.o;show b≠w.heap.size+1+1;omega)).trans (Y.o.2 b o g G)⟩,rfl,by rw[cz H2.o];rfl,(N.o.toBelow (n:=w.heap.size) (by have:=a.o;omega) (λb e=>by omega)).setCell (p:=⟨w.heap.size+1+1,0,none⟩) (by show w.heap.size<=w.heap.size+1+1;omega) _,?_⟩;unfold dB;rw[pW,<-HE.o,List.all_append,List.all_cons,C.o];simp
  ·have nX:decide ((20:Int)<(pre.length:Int)+1)=true:=by simp;omega
   have s:Fix (λb=>b=w.heap.size+3) d (i.setCell ⟨w.heap.size+1+1+1,0,none⟩ (.int .i64 ((pre.length:Int)+1))):=q.setCell (p:=⟨w.heap.size+1+1+1,0,none⟩) rfl _;have J:=s.toBelow (n:=w.heap.size) (by have:=a.o;omega) (λb e=>by omega);have N:=hI J;have u:=hI r;clear s J r q U E F M m H I l he j
   gi_wp2
   refine⟨⟨by simp[World.setCell],λb o g G=>(au _ _ _ _ (by have:=a.o;show b≠w.heap.size+1+1;omega)).trans ((au _ _ _ _ (by have:=a.o;show b≠w.heap.size+1+1+1;omega)).trans G)⟩,rfl,?_,N.o.setCell (p:=⟨w.heap.size+1+1,0,none⟩) (by show w.heap.size<=w.heap.size+1+1;omega) _,?_⟩
   ·rw[cz ((au _ _ _ _ (by simp)).trans u.o)];rfl
   ·unfold dB;rw[EG]at Qv;rw[aB (by omega)];rfl
 case done=>
  rintro D W m ⟨i,_,hle,j⟩ J;have f:=(i.block _ (show w.heap.size+2<d.heap.size by have:=a.o;omega) (by omega)).trans lX.o;have ce:=cZ f;have u:W.frozen? ⟨w.heap.size+1+1,0,none⟩=false:=by simp[World.frozen?,f]
  have s:=af ce;obtain⟨q,l,Z,r⟩:=h_4 i J j hle;clear i hle j J f;go_wp2;refine iZ (v:=.bool true) D ((au _ _ _ _ (by show D≠w.heap.size+1+1;have:=a.o;omega)).trans l.o) (di rfl rfl (dz Tryz.underlying4 rfl ?_)) rfl ⟨?_,?_⟩
  ·rw[gZ (by have:=a.o;omega)];exact World.cell?_setCell_same _ _ _ ce
  ·unfold dB;rw[pW,Z.o,<-EG,aI r.o];rfl
  ·exact dI (((Q.o).trans (q.o.toBelow (n:=w.heap.size) (by have:=a.o;omega) (λb e=>by omega))).setCell (p:=⟨w.heap.size+1+1,0,none⟩) (by show w.heap.size<=w.heap.size+1+1;omega) _) (by have:=a.o;omega) _
 case stop=>
  rintro D c pre W m ⟨rfl,f,g,i⟩ J;have ce:=cZ f;obtain⟨q,l,r⟩:=h_3 g J i;clear g J i f
  gi_wp2
  refine iZ (v:=.bool false) D l.o (di rfl rfl (dz Tryz.underlying4 rfl ?_)) rfl ⟨?_,?_⟩
  ·rw[gZ (by have:=a.o;omega)];exact ce
  ·rw[r.o]
  ·exact dI (Q.o.trans q.o) (by have:=a.o;omega) _
end
section
open Go Go.RowKit
attribute [local go_sem] Oper.semAt_some aT cW df m7 wm
def nM(o:Int)(x:Nd):Int:=if x.a=1 then max o x.n else o
def pY(t:Nd):Int:=(dM t).foldl nM (-1)
theorem EK(w:World)(a b c:Obj):(((w.alloc a).alloc b).alloc c).heap[w.heap.size]? =some a/\(((w.alloc a).alloc b).alloc c).heap[w.heap.size+1]? =some b/\(((w.alloc a).alloc b).alloc c).heap[w.heap.size+2]? =some c:=jf w a b c
theorem Sc(t:Nd)(v:Value)(w:World)(B:Nat)(m:cV w B v t)(hB:B<=w.heap.size):
 aH Tryz.prog 182 #[v] w (.int .i64 (pY t)):=by
 have V:=hI (m.mono hB);obtain⟨kv,rfl,f⟩:=m;have fK:=f.small;obtain⟨ka,kc,rfl⟩:=f.slice;clear f;unfold aH;refine callsIn_wide.1 (callsIn_of_wp_marks (n:=0) Tryz.func182 rfl trivial (wpIn_wide.2 ?_) rfl);simp only[Tryz.ntmps182,List.size_toArray,aD,List.length_nil,Nat.reduceAdd,Nat.reduceSub,Array.replicate_succ,Array.replicate_zero,List.push_toArray,List.append_toArray,bL,bJ]
 go_wp2_with (go_at_call 186;refine(He _ _ _ _ _ _ _ rfl).mono ?_;rintro e w' ⟨rfl,rfl⟩)
 obtain⟨a,u⟩:=xE (((w.alloc (.cells #[.int .i64 t.a,.int .i64 t.n,.slice ka t.k.len kc] 26)).alloc (.cells #[.int .i64 (-1)] 3)).alloc (.cells #[.int .i64 t.a,.int .i64 t.n,.slice ka t.k.len kc] 26));have f:=EK w (.cells #[.int .i64 t.a,.int .i64 t.n,.slice ka t.k.len kc] 26) (.cells #[.int .i64 (-1)] 3) (.cells #[.int .i64 t.a,.int .i64 t.n,.slice ka t.k.len kc] 26);have q:=Below.F0 w (.cells #[.int .i64 t.a,.int .i64 t.n,.slice ka t.k.len kc] 26) (.cells #[.int .i64 (-1)] 3) (.cells #[.int .i64 t.a,.int .i64 t.n,.slice ka t.k.len kc] 26);have H:a.heap.size=w.heap.size+3:=by rw[u];simp
 rw[<-u]at f q |-;obtain⟨X,I,K⟩:=f;obtain⟨Y,Z,jP,eO⟩:=h_4 I K q H;have HX:Hd (cV a w.heap.size (.agg #[.int .i64 t.a,.int .i64 t.n,.slice ka t.k.len kc]) t):=hI (V.o.below q lR);have L:∀(pre:List Nd) W,(Fix (λb=>b=w.heap.size+1) a W/\W.heap[w.heap.size+1]? =some (.cells #[.int .i64 (pre.foldl nM (-1))] 3 (0,0)))->Below w.heap.size a W:=λpre W h=>h.1.toBelow (by have:=eO.o;omega) λb e=>by omega
 have Sb:=hI L;clear X I K q H u L;refine wpIn_wide.1 (Dg (n:=0) 225 #[.pointer (some ⟨w.heap.size+1+1,0,none⟩)] (cV a w.heap.size) (dM t) rfl (enters_of Tryz.func225 (by kernel_rfl) rfl)
  (λpre W=>Fix (λb=>b=w.heap.size+1) a W/\W.heap[w.heap.size+1]? =some (.cells #[.int .i64 (pre.foldl nM (-1))] 3 (0,0)))
  (λc pre W=>False)
  (λpre W W' h y=>⟨h.1.below y,cY y h.2⟩)
  (λpre W W' h z=>⟨h.1.same z (by omega),(z.2.2.2.2 _ (by have:=eO.o;omega)).trans h.2⟩)
  (λc pre W W' h z=>h)
  ⟨Fix.refl _ _,Y.o⟩
  (λJ Jx hJ M _ hY W N hW=>Ln _ _ w.heap.size a (by have:=eO.o;omega) (by have:=eO.o;omega) (dM t) J Jx hJ (λpre W h=>Sb.o pre W (M pre W h)) hY t ka t.k.len kc (w.heap.size+2) W HX.o rfl (((M _ _ N).1.block _ (by have:=eO.o;omega) (by omega)).trans Z.o) N hW)
  ?round ?done ?stop)
 case round=>
  intro pre x post v W he hi m bO;obtain⟨xv,rfl,Kb⟩:=m;obtain⟨O,P,rfl⟩:=Kb.slice
  gi_wp2
  refine⟨Below.cA _ _,λA r=> ?_⟩;obtain⟨s,Q⟩:=hi;have C:=Below.cA W (.cells #[.int .i64 x.a,.int .i64 x.n,.slice O x.k.len P] 26);have R:=(s.below C).same r (by omega);have i:A.heap[w.heap.size+1]? =some (.cells #[.int .i64 (pre.foldl nM (-1))] 3 (0,0)):=(r.2.2.2.2 _ (by have:=eO.o;omega)).trans (cY C Q);have E:A.heap[W.heap.size]? =some (.cells #[.int .i64 x.a,.int .i64 x.n,.slice O x.k.len P] 26 (0,0)):=(r.2.2.2.2 _ (by have:=s.size;omega)).trans (a_ _ _);obtain⟨j,d⟩:=xE (pre.foldl nM (-1));have k:Hd ((pre++[x]).foldl nM (-1)=nM j x):=hI (by rw[d,List.foldl_append];rfl);rw[<-d]at i;have c3:=cZ i;have f3:A.frozen? ⟨w.heap.size+1,0,none⟩=false:=by simp[World.frozen?,i]
  have x0:=cZ E;have x1:=eY E;have z3:=af c3;have zx:=af x0;have n1:¬(W.heap.size=w.heap.size+1):=by have:=s.size;have:=eO.o;omega
  have n2:¬(w.heap.size+1=W.heap.size):=λe=>n1 e.symm;have S:=hI R;have l:=hI i;clear d s Q C R i E r he;by_cases g:x.a=1
  ·have e1:(x.a==1)=true:=by rw[g];rfl
   have F:Hd (nM j x=max j x.n):=hI (aq g);clear g
   gi_wp2
   all_goals
    rename_i CT;refine⟨⟨by simp[World.setCell],λb o y ho=>(au _ _ _ _ (by have:=eO.o;show b≠w.heap.size+1;omega)).trans ho⟩,S.o.setCell (p:=⟨w.heap.size+1,0,none⟩) rfl _,?_⟩;rw[cz l.o,k.o,F.o];show some (Obj.cells #[.int .i64 _] _ _)=some (Obj.cells #[.int .i64 _] _ _)
    congr<;>(try simp at CT)<;>omega
  ·have e1:(x.a==1)=false:=by rw[beq_eq_false_iff_ne];exact g
   have F:Hd (nM j x=j):=hI (ah g);clear g
   gi_wp2
   exact⟨cq.refl _ _,S.o,by rw[k.o,F.o];exact l.o⟩
 case done=>
  rintro D W hD ⟨T,hc⟩ U;have ce:W.cell? ⟨w.heap.size+1,0,none⟩=some (.int .i64 (pY t)):=cZ hc;have ze:=af ce;have HF:=hI T;have HK:=hI U;clear T U hc;go_wp2;refine iZ (v:=.int .i64 (pY t)) D HK.o (by simp[results,Tryz.results182,go_sem]) rfl ⟨rfl,?_⟩;exact anS
 case stop=>
  rintro D c pre W hD h;exact h.elim
end
section
open Go Go.RowKit
attribute [local go_sem] aT cW df
theorem Ob(L:Nat)(v:Value)(n:Nat)(c:Nat->Value)(g:Nat)(caps:Array Value)(J d:Nat->World->Prop)(w:World)(m:L<=w.heap.size)
 (i:∀args w,(callFunc g args).run Tryz.prog w=.ok (.enter g args) w)
 (j:∀k W W',J k W->Below W.heap.size W W'->J k W') (b:∀k W,J k W->Row W W.heap.size 3 v n c)
 (l:∀k,k<n->∀W,J k W->Calls Tryz.prog g (#[.agg #[c (k*3),c (k*3+1),c (k*3+2)]]++caps) W λe W'=>(e=.returned (.bool true)/\J (k+1) W'/\cq L W W')\/(e=.returned (.bool false)/\d k W')) (f:J 0 w):
  Calls Tryz.prog 298 #[v,.func (.func g) #[] caps] w λe W'=>(e=.returned (.bool true)/\J n W'/\cq L w W')\/(∃k:Nat,k<n/\e=.returned (.bool false)/\d k W'):=by
 have o:=hI (yw L v n c g caps J d w m i j b l f);obtain⟨p,a,cap,rfl,_⟩:=b 0 w f;clear i j b l f
 go_enter Tryz.func298,Tryz.ntmps298
 go_wp2_with fail
 refine o.o.mono ?_;rintro e W' (⟨rfl,b⟩|⟨k,i,rfl,b⟩)
 ·have f:=hI b;clear b;go_wp2;go_ret;exact .inl ⟨rfl,f.o⟩
 ·have f:=hI b;clear b;go_wp2;go_ret;exact .inr ⟨k,i,rfl,f.o⟩
theorem Qw(l L r:Nat)(w0:World)(M:r<=w0.heap.size)(Y:r<=L)(all:List Nd)(J g:List Nd->World->Prop)
 (i:∀pre W W',J pre W->Below W.heap.size W W'->J pre W') (hB:∀pre W,J pre W->Below r w0 W)
 (y:∀pre x W,x.a≠1->J pre W->J (pre++[x]) W)
 (z:∀pre t post W,pre++t::post=all->J pre W->t.a=1->YieldAt Fence.wide 0 Tryz.prog l #[.int .i64 t.n] W λe W'=>(e=.returned (.bool true)/\J (pre++[t]) W'/\cq L W W')\/(e=.returned (.bool false)/\g (pre++[t]) W'))
 (q1 d:Nat) (N:L<=q1) (C:L<=d):∀(m:Nat) (t:Nd) (v:Value) (pre post:List Nd) (W:World),t.size<=m->cV w0 r v t->pre++dM t++post=all->J pre W->L<=W.heap.size->
  W.heap[q1]? =some (.cells #[.func (.yield l) #[] #[]] 294 (0,0))->W.heap[d]? =some (.cells #[.func (.func 297) #[] #[.pointer (some ⟨q1,0,none⟩),.pointer (some ⟨d,0,none⟩)]] 80 (0,0))->
  Calls Tryz.prog 297 #[v,.pointer (some ⟨q1,0,none⟩),.pointer (some ⟨d,0,none⟩)] W λe W'=>(e=.returned (.bool true)/\J (pre++dM t) W'/\cq L W W')\/(e=.returned (.bool false)/\∃q,g q W')
 |0,t,_,_,_,_,h,_,_,_,_,_,_=>ay h (by unfold Nd.size;omega)
 |m+1,t,v,pre,post,W,hm,O,he,A,D,B,j=>by
  have P:=O;obtain⟨kv,rfl,c,s,E⟩:=O;have Z:∀args w,(callFunc 297 args).run Tryz.prog w=.ok (.enter 297 args) w:=enters_of Tryz.func297 (by kernel_rfl) rfl;have Q:Hd (∀V,J (pre++[t]) V->cq L W V->Calls Tryz.prog 298 #[kv,.func (.func 297) #[] #[.pointer (some ⟨q1,0,none⟩),.pointer (some ⟨d,0,none⟩)]] V λe W'=>
   (e=.returned (.bool true)/\J (pre++dM t) W'/\cq L W W')\/(e=.returned (.bool false)/\∃q,g q W')):=hI λV u p=>by
   refine(Ob L kv t.k.len c 297 #[.pointer (some ⟨q1,0,none⟩),.pointer (some ⟨d,0,none⟩)] (λk X=>J (pre++[t]++nK t.k k) X/\cq L W X) (λ_ X=>∃q,g q X) V (ai D p.1) Z
    (λk X X' h G=>⟨i _ X X' h.1 G,h.2.below G⟩)
    (λk X h=>(s.below (hB _ X h.1) lR).mono (ai M (hB _ X h.1).size))
    (λk ua X h=> ?_) ⟨by rw[sR,bk];exact u,p⟩).mono ?_
   ·obtain⟨c0,c1,c2⟩:=E.at ua;obtain⟨rest,H⟩:=sS t.k (k+1);have:=Qw l L r w0 M Y all J g i hB y z q1 d N C m (t.k.at k) (.agg #[c (k*3),c (k*3+1),c (k*3+2)]) (pre++[t]++nK t.k k) (rest++post) X
     (by have:=Fo.eD ua;unfold Nd.size at hm |-;omega) ⟨_,by rw[c0,c1],c2⟩
     (by rw[<-he];unfold dM at*;rw[H,lL ua];simp[aG,dM]) h.1 (ai D h.2.1) (h.2.2 _ _ N B) (h.2.2 _ _ C j)
    exact ano
   ·exact am6
  have H:Hd (t.a=1->∀V,Below W.heap.size W V->YieldAt Fence.wide 0 Tryz.prog l #[.int .i64 t.n] V λe W'=>(e=.returned (.bool true)/\J (pre++[t]) W'/\cq L W W'/\W'.heap[d]? =some (.cells #[.func (.func 297) #[] #[.pointer (some ⟨q1,0,none⟩),.pointer (some ⟨d,0,none⟩)]] 80 (0,0))/\(∀o,V.heap[W.heap.size]? =some o->W'.heap[W.heap.size]? =some o))\/(e=.returned (.bool false)/\∃q,g q W')):=hI λI V u=>
   (z pre t (iU t.k++post) V (by rw[<-he];simp[dM]) (i _ _ _ A u) I).mono λe W' hc=>hc.elim
    (fun⟨a1,a2,a3⟩=>.inl ⟨a1,a2,(cq.cB u).trans a3,a3.2 _ _ C (u.block d (gE j).1 |>.trans j),λo G=>a3.2 _ _ D G⟩) fun⟨a1,a2⟩=>.inr ⟨a1,_,a2⟩
  have y1:W.cell? ⟨q1,0,none⟩=some (.func (.yield l) #[] #[]):=cZ B;have y2:W.cell? ⟨d,0,none⟩=some (.func (.func 297) #[] #[.pointer (some ⟨q1,0,none⟩),.pointer (some ⟨d,0,none⟩)]):=cZ j;have z1:q1<W.heap.size:=af y1;have z2:d<W.heap.size:=af y2;obtain⟨ka,kc,rfl⟩:∃a b,kv=.slice a t.k.len b:=by obtain⟨_,a,b,uA,_⟩:=s;exact⟨a,b,uA⟩
  have FQ:t.k.len<=140737488355328:=s.1;by_cases p:t.a=1
  ·have e1:(t.a != 1)=false:=by rw[p];rfl
   obtain⟨fn,tmps,assign,body,hy,G⟩:=jo (F:=Fence.wide) rfl 0 (H.o p (W.alloc (.cells #[.int .i64 t.a,.int .i64 t.n,.slice ka t.k.len kc] 26)) (Below.cA _ _));have fw:Hd ((W.alloc (.cells #[.int .i64 t.a,.int .i64 t.n,.slice ka t.k.len kc] 26)).heap[W.heap.size]? =some (.cells #[.int .i64 t.a,.int .i64 t.n,.slice ka t.k.len kc] 26 (0,0))):=hI (a_ _ _);have HR:=hI G;clear G;clear P s E B j A H i hB y z p;refine(callsIn_wide (n:=0)).1 ?_;refine callsIn_of_wp Tryz.func297 rfl trivial ?_ rfl;simp only[Tryz.ntmps297,List.size_toArray,aD,List.length_nil,Nat.reduceAdd,Nat.reduceSub,Array.replicate_succ,Array.replicate_zero,List.push_toArray,List.append_toArray,bL,bJ]
   gi_wp2_with fail
   refine⟨rfl,?_⟩;refine HR.o.mono ?_;rintro e K (⟨rfl,R,S,T,U⟩|⟨rfl,hx⟩)
   ·have d0:K.cell? ⟨d,0,none⟩=some (.func (.func 297) #[] #[.pointer (some ⟨q1,0,none⟩),.pointer (some ⟨d,0,none⟩)]):=cZ T;have d2:K.cell? ⟨W.heap.size,2,none⟩=some (.slice ka t.k.len kc):=by rw[cell_of_row _ _ _ _ _ _ (U _ fw.o)];rfl
    have HE2:=hI (Q.o K R S);clear R S T U hy
    gi_wp2_with fail
    exact amA
   ·have HX:=hI hx;clear hx
    gi_wp2_with fail
    refine⟨trivial,?_⟩
    gi_wp2
    go_ret;exact .inr ⟨rfl,HX.o⟩
  ·have e1:(t.a != 1)=true:=gy p;have G:=Below.cA W (.cells #[.int .i64 t.a,.int .i64 t.n,.slice ka t.k.len kc] 26);have HE2:=hI (Q.o _ (y _ _ _ p (i _ _ _ A G)) (cq.cB G));clear P s E B j A H i hB y z p G;refine(callsIn_wide (n:=0)).1 ?_;refine callsIn_of_wp Tryz.func297 rfl trivial ?_ rfl;simp only[Tryz.ntmps297,List.size_toArray,aD,List.length_nil,Nat.reduceAdd,Nat.reduceSub,Array.replicate_succ,Array.replicate_zero,List.push_toArray,List.append_toArray,bL,bJ]
   gi_wp2_with fail
   refine⟨λf h=>(by cases h),?_⟩
   gi_wp2_with fail
   exact amA
theorem aaz(l L d:Nat)(w0:World)(u:d<=w0.heap.size)(y:d<=L)(all:List Nd)(J i:List Nd->World->Prop)
 (j:∀pre W W',J pre W->Below W.heap.size W W'->J pre W') (hB:∀pre W,J pre W->Below d w0 W)
 (k:∀pre x W,x.a≠1->J pre W->J (pre++[x]) W)
 (m:∀pre t post W,pre++t::post=all->J pre W->t.a=1->YieldAt Fence.wide 0 Tryz.prog l #[.int .i64 t.n] W λe W'=>(e=.returned (.bool true)/\J (pre++[t]) W'/\cq L W W')\/(e=.returned (.bool false)/\i (pre++[t]) W'))
 (t:Nd) (a:Option Addr) (len cap c:Nat) (W:World) (n:cV w0 d (.agg #[.int .i64 t.a,.int .i64 t.n,.slice a len cap]) t) (o:dM t=all)
 (hc:W.heap[c]? =some (.cells #[.int .i64 t.a,.int .i64 t.n,.slice a len cap] 26 (0,0))) (p:J [] W) (r:L<=W.heap.size):
 Calls Tryz.prog 296 #[.func (.yield l) #[] #[],.pointer (some ⟨c,0,none⟩)] W λe W'=>(∃v,e=.returned v)/\(J all W'\/∃q,i q W'):=by
 have A:∀args w,(callFunc 297 args).run Tryz.prog w=.ok (.enter 297 args) w:=enters_of Tryz.func297 (by kernel_rfl) rfl;have z:Hd (∀V,Below W.heap.size W V->V.heap[W.heap.size]? =some (.cells #[.func (.yield l) #[] #[]] 294 (0,0))->V.heap[W.heap.size+1]? =some (.cells #[.func (.func 297) #[] #[.pointer (some ⟨W.heap.size,0,none⟩),.pointer (some ⟨W.heap.size+1,0,none⟩)]] 80 (0,0))->
  Calls Tryz.prog 297 #[.agg #[.int .i64 t.a,.int .i64 t.n,.slice a len cap],.pointer (some ⟨W.heap.size,0,none⟩),.pointer (some ⟨W.heap.size+1,0,none⟩)] V λe W'=>∃b,e=.returned (.bool b)/\(J all W'\/∃q,i q W')):=hI λV s f g=>
  (Qw l L d w0 u y all J i j hB k m W.heap.size (W.heap.size+1) r (by omega) _ t _ [] [] V lR n (by simpa using o) (j _ _ _ p s) (ai r s.size) f g).mono λe W' h=>
   h.elim (fun⟨f,g,_⟩=>⟨true,f,.inl (by rw[<-o];exact g)⟩) fun⟨f,g⟩=>⟨false,f,.inr g⟩
 have c0:W.cell? ⟨c,0,none⟩=some (.int .i64 t.a):=cZ hc;have c1:W.cell? ⟨c,1,none⟩=some (.int .i64 t.n):=eY hc;have c2:W.cell? ⟨c,2,none⟩=some (.slice a len cap):=fu hc;have s:c<W.heap.size:=af c0;clear j hB k m p n hc
 go_enter Tryz.func296,Tryz.ntmps296
 go_wp2_with fail
 refine(z.o _ (Below.jE _ _ _) (cH _ _ _).1 (cH _ _ _).2).mono ?_;rintro e j ⟨b,rfl,f⟩;have g:=hI f;clear f;go_wp2
 go_end0
 exact⟨⟨_,rfl⟩,g.o⟩
attribute [local go_sem] Oper.semAt_some wm m7
theorem V9(a n:Int)(k:Value)(w:World)(len cap:Nat)(b:Option Addr)(c:k=.slice b len cap):Calls Tryz.prog 295 #[.agg #[.int .i64 a,.int .i64 n,k]] w λe w'=>
 e=.returned (.func (.func 296) #[] #[.pointer (some ⟨w.heap.size,0,none⟩)])/\w'=w.alloc (.cells #[.int .i64 a,.int .i64 n,k] 26):=by
 subst c;have d:∀(fn:Fn) (first cap:Array Value) (w:World),(Instr.makeFunc fn first cap).run Tryz.prog w=.ok (.func fn first cap) w:=λ_ _ _ _=>rfl
 go_enter Tryz.func295,Tryz.ntmps295
 go_wp2;go_ret;exact⟨rfl,rfl⟩
theorem Sd(t:Nd)(v:Value)(w:World)(B:Nat)(i:cV w B v t)(hB:B<=w.heap.size):
 aH Tryz.prog 292 #[v] w (.int .i64 (pY t)):=by
 have R:=hI (i.mono hB);obtain⟨kv,rfl,d⟩:=i;have fK:=d.small;obtain⟨ka,kc,rfl⟩:=d.slice;clear d;unfold aH;refine callsIn_wide.1 (callsIn_of_wp_marks (n:=0) Tryz.func292 rfl trivial (wpIn_wide.2 ?_) rfl);simp only[Tryz.ntmps292,List.size_toArray,aD,List.length_nil,Nat.reduceAdd,Nat.reduceSub,Array.replicate_succ,Array.replicate_zero,List.push_toArray,List.append_toArray,bL,bJ]
 go_wp2_with (go_at_call 295;refine(V9 _ _ _ _ _ _ _ rfl).mono ?_;rintro e w' ⟨rfl,rfl⟩)
 obtain⟨f,l⟩:=xE (((w.alloc (.cells #[.int .i64 t.a,.int .i64 t.n,.slice ka t.k.len kc] 26)).alloc (.cells #[.int .i64 (-1)] 3)).alloc (.cells #[.int .i64 t.a,.int .i64 t.n,.slice ka t.k.len kc] 26));have d:=EK w (.cells #[.int .i64 t.a,.int .i64 t.n,.slice ka t.k.len kc] 26) (.cells #[.int .i64 (-1)] 3) (.cells #[.int .i64 t.a,.int .i64 t.n,.slice ka t.k.len kc] 26);have j:=Below.F0 w (.cells #[.int .i64 t.a,.int .i64 t.n,.slice ka t.k.len kc] 26) (.cells #[.int .i64 (-1)] 3) (.cells #[.int .i64 t.a,.int .i64 t.n,.slice ka t.k.len kc] 26);have C:f.heap.size=w.heap.size+3:=by rw[l];simp
 rw[<-l]at d j |-;obtain⟨S,E,F⟩:=d;obtain⟨T,U,jP,eO⟩:=h_4 E F j C;have V:Hd (cV f w.heap.size (.agg #[.int .i64 t.a,.int .i64 t.n,.slice ka t.k.len kc]) t):=hI (R.o.below j lR);have H:∀(pre:List Nd) W,(Fix (λb=>b=w.heap.size+1) f W/\W.heap[w.heap.size+1]? =some (.cells #[.int .i64 (pre.foldl nM (-1))] 3 (0,0)))->Below w.heap.size f W:=λpre W h=>h.1.toBelow (by have:=eO.o;omega) λb e=>by omega
 have X:=hI H;clear S E F j C l H;refine wpIn_wide.1 (Dg (n:=0) 296 #[.pointer (some ⟨w.heap.size+1+1,0,none⟩)] (λv x=>x.a=1/\v=.int .i64 x.n) (dM t) rfl (enters_of Tryz.func296 (by kernel_rfl) rfl)
  (λpre W=>Fix (λb=>b=w.heap.size+1) f W/\W.heap[w.heap.size+1]? =some (.cells #[.int .i64 (pre.foldl nM (-1))] 3 (0,0)))
  (λc pre W=>False)
  (λpre W W' h m=>⟨h.1.below m,cY m h.2⟩)
  (λpre W W' h q=>⟨h.1.same q (by omega),(q.2.2.2.2 _ (by have:=eO.o;omega)).trans h.2⟩)
  (λc pre W W' h q=>h)
  ⟨Fix.refl _ _,T.o⟩
  (λJ Y Z I hS hY W K hW=>aaz _ _ w.heap.size f (by have:=eO.o;omega) (by have:=eO.o;omega) (dM t) J Y Z (λpre W h=>X.o pre W (I pre W h)) (λpre x W r s=>hS pre x (λW h=>⟨h.1,by rw[h.2,List.foldl_append];show _=some (Obj.cells #[.int .i64 (nM _ x)] _ _);unfold nM;rw[ah r]⟩) W s) (λpre x post W he s r=>hY pre x post _ W he s ⟨r,rfl⟩) t ka t.k.len kc (w.heap.size+2) W V.o rfl (((I _ _ K).1.block _ (by have:=eO.o;omega) (by omega)).trans U.o) K hW)
  ?round ?done ?stop)
 case round=>
  intro pre x post v W he hi i bO;obtain⟨L,rfl⟩:=i
  gi_wp2
  refine⟨bR,λu y=> ?_⟩;obtain⟨M,N⟩:=hi;have O:=M.same y (by omega);have g:u.heap[w.heap.size+1]? =some (.cells #[.int .i64 (pre.foldl nM (-1))] 3 (0,0)):=(y.2.2.2.2 _ (by have:=eO.o;omega)).trans N;obtain⟨k,a⟩:=xE (pre.foldl nM (-1));have z:Hd ((pre++[x]).foldl nM (-1)=nM k x):=hI (by rw[a,List.foldl_append];rfl);rw[<-a]at g;have c3:u.cell? ⟨w.heap.size+1,0,none⟩=some (.int .i64 k):=cZ g;have f3:u.frozen? ⟨w.heap.size+1,0,none⟩=false:=by simp[World.frozen?,g]
  have z3:=af c3;have yq:=hI O;have A:=hI g;have HM:Hd (nM k x=max k x.n):=hI (aq L);clear a M N O g y he L
  gi_wp2
  all_goals
   rename_i CT;refine⟨⟨by simp[World.setCell],λb o m ho=>(au _ _ _ _ (by have:=eO.o;show b≠w.heap.size+1;omega)).trans ho⟩,yq.o.setCell (p:=⟨w.heap.size+1,0,none⟩) rfl _,?_⟩;rw[cz A.o,z.o,HM.o];show some (Obj.cells #[.int .i64 _] _ _)=some (Obj.cells #[.int .i64 _] _ _)
   congr<;>(try simp at CT)<;>omega
 case done=>
  rintro D W hD ⟨P,hc⟩ Q;have ce:W.cell? ⟨w.heap.size+1,0,none⟩=some (.int .i64 (pY t)):=cZ hc;have ze:=af ce;have HF:=hI P;have HK:=hI Q;clear P Q hc;go_wp2;refine iZ (v:=.int .i64 (pY t)) D HK.o (by simp[results,Tryz.results292,go_sem]) rfl ⟨rfl,?_⟩;exact anS
 case stop=>
  rintro D c pre W hD h;exact h.elim
end
section
open Go Go.RowKit
attribute [local go_sem] aT cW df
theorem EM(L:Nat)(v:Value)(n:Nat)(c:Nat->Value)(g:Nat)(caps:Array Value)(J f:Nat->World->Prop)(w:World)(p:L<=w.heap.size)
 (sW:∀k,k<n->∃(a m:Int) (s:Option Addr) (l q:Nat),c (k*3)=.int .i64 a/\c (k*3+1)=.int .i64 m/\c (k*3+2)=.slice s l q) (z:∀args w,(callFunc g args).run Tryz.prog w=.ok (.enter g args) w)
 (j:∀k W W',J k W->Below W.heap.size W W'->J k W') (G:∀k W,J k W->Row W W.heap.size 3 v n c)
 (o:∀k,k<n->∀W,J k W->Calls Tryz.prog g (#[.agg #[c (k*3),c (k*3+1),c (k*3+2)]]++caps) W λe W'=>(e=.returned (.bool true)/\J (k+1) W'/\cq L W W')\/(e=.returned (.bool false)/\f k W')) (d:J 0 w):
  Calls Tryz.prog 233 #[v,.func (.func g) #[] caps] w λe W'=>(e=.returned (.bool true)/\J n W'/\cq L w W')\/(∃k:Nat,k<n/\e=.returned (.bool false)/\f k W'):=by
 obtain⟨A,a,cap,rfl,hc,_,_⟩:=G 0 w d;obtain⟨r,t,HJ,u⟩:=h_4 o G j d;clear o G j d p
 go_enter Tryz.func233,Tryz.ntmps233
 go_wp2
 go_loopw [9] (λi wr=>∃k:Nat,k<=n/\i=.int .i64 k/\J k wr/\cq L w wr) (λi _=>n-(intOf i).toNat)
 case atStart=>exact⟨0,aw _,rfl,u.o,cq.refl _ _⟩
 case round=>
  obtain⟨k,B,rfl,hj,fK⟩:=hrel;have Se:=hI fK;by_cases bO:k<n
  ·obtain⟨_,_,_,he,_,_,hr⟩:=t.o k wr hj;cases he;obtain⟨b,off,rfl,C,bX⟩:=hr (by omega);have D:(k:Int)<(n:Int):=by omega
   have c0:=bX (k*3) (by omega);have c1:=bX (k*3+1) (by omega);have c2:=bX (k*3+2) (by omega);rw[<-bN]at c1 c2;have HC:=hI (r.o k bO);obtain⟨x0,x1,xs,d,j,o,x,y⟩:=sW k bO;rw[o]at c0 HC;rw[x]at c1 HC;rw[y]at c2 HC;have qM:=Below.cA wr (.cells #[.int .i64 x0,.int .i64 x1,.slice xs d j] 54);exact amU
  ·exact anQ
theorem Oc(L:Nat)(v:Value)(n:Nat)(c:Nat->Value)(g:Nat)(caps:Array Value)(J f:Nat->World->Prop)(w:World)(o:L<=w.heap.size)
 (sW:∀k,k<n->∃(s:ByteArray) (m:Int),c (k*2)=.string s/\c (k*2+1)=.int .i64 m) (t:∀args w,(callFunc g args).run Tryz.prog w=.ok (.enter g args) w)
 (j:∀k W W',J k W->Below W.heap.size W W'->J k W') (G:∀k W,J k W->Row W W.heap.size 2 v n c)
 (l:∀k,k<n->∀W,J k W->Calls Tryz.prog g (#[.agg #[c (k*2),c (k*2+1)]]++caps) W λe W'=>(e=.returned (.bool true)/\J (k+1) W'/\cq L W W')\/(e=.returned (.bool false)/\f k W')) (d:J 0 w):
  Calls Tryz.prog 195 #[v,.func (.func g) #[] caps] w λe W'=>(e=.returned (.bool true)/\J n W'/\cq L w W')\/(∃k:Nat,k<n/\e=.returned (.bool false)/\f k W'):=by
 obtain⟨u,a,cap,rfl,hc,_,_⟩:=G 0 w d;obtain⟨p,q,HJ,r⟩:=h_4 l G j d;clear l G j d o
 go_enter Tryz.func195,Tryz.ntmps195
 go_wp2
 go_loopw [9] (λi wr=>∃k:Nat,k<=n/\i=.int .i64 k/\J k wr/\cq L w wr) (λi _=>n-(intOf i).toNat)
 case atStart=>exact⟨0,aw _,rfl,r.o,cq.refl _ _⟩
 case round=>
  obtain⟨k,l,rfl,hj,fK⟩:=hrel;have Se:=hI fK;by_cases bO:k<n
  ·obtain⟨_,_,_,he,_,_,hr⟩:=q.o k wr hj;cases he;obtain⟨b,off,rfl,x,bX⟩:=hr (by omega);have y:(k:Int)<(n:Int):=by omega
   have c0:=bX (k*2) (by omega);have c1:=bX (k*2+1) (by omega);rw[<-bN]at c1;have HC:=hI (p.o k bO);obtain⟨x0,x1,d,j⟩:=sW k bO;rw[d]at c0 HC;rw[j]at c1 HC;have qM:=Below.cA wr (.cells #[.string x0,.int .i64 x1] 163);exact amU
  ·exact anQ
end
section
open Go Go.RowKit
def Qx(bs:List ByteArray)(s:ByteArray):Option Value:=if nF bs s then some (.bool true)else none
structure vk (W:World) (qm mb:Nat) (bs:List ByteArray):Prop where
 box:W.heap[qm]? =some (.cells #[.map (some mb)] 229 (0,0))
 map:eu U2 W mb (Qx bs)
theorem vk.below{W W':World}{qm mb:Nat}{bs:List ByteArray}(h:vk W qm mb bs)(a:Below W.heap.size W W'):vk W' qm mb bs:=
 ⟨cY a h.box,h.map.below a h.map.lt⟩
theorem Od(bs:List ByteArray)(s:ByteArray)(a:Int)(i:s.size<=140737488355328)(qm mb:Nat)(w:World)(f:vk w qm mb bs):
 Calls Tryz.prog 192 #[.agg #[.string s,.int .i64 a],.pointer (some ⟨qm,0,none⟩)] w λe w'=>e=.returned (.bool (!nF bs s&&(eV s&&fX a 0 4)))/\vk w' qm mb (bs++[s])/\Fix (λq=>q=mb) w w':=by
 have B:=cZ f.box;obtain⟨g,n⟩:=qS w (.cells #[.string s,.int .i64 a] 163);have l:=hI (f.below g);have r:(Instr.lookup 229 (.map (some mb)) (.string s) false).run Tryz.prog (w.alloc (.cells #[.string s,.int .i64 a] 163))=.ok (.bool (nF bs s)) (w.alloc (.cells #[.string s,.int .i64 a] 163)):=by
  cases d:nF bs s with
  |true=>exact lp (v:=.bool true) (et:=4) Tryz.underlying229 I4 l.o.map (k:=s) (by unfold Qx;rw[aq d]) false
  |false=>exact pE (z:=.bool false) (et:=4) Tryz.underlying229 I4 (λw=>by kernel_rfl) l.o.map (k:=s) (by unfold Qx;rw[ah (by rw[d];decide)]) false
 obtain⟨o,t,p,_⟩:=run_set (T:=229) (et:=4) (P:=Tryz.prog) Tryz.underlying229 I4 l.o.map s (.bool true);unfold U2 at t;have u:∃es c,w.heap[mb]? =some (.map es c):=by obtain⟨_,⟨es,c,h,_⟩,_⟩:=f.map;exact⟨es,c,h⟩
 have eC:qm≠mb:=λe=>by obtain⟨es,c,h⟩:=u;rw[<-e,f.box]at h;cases h
 have m:=f.map.lt;have x:Fix (λq=>q=mb) w ((w.alloc (.cells #[.string s,.int .i64 a] 163)).putObj mb o):=⟨g.os,g.tape,g.output,by simp,λb j A=>(aA A).trans (g.block b j)⟩;have y:vk ((w.alloc (.cells #[.string s,.int .i64 a] 163)).putObj mb o) qm mb (bs++[s]):=by
  refine⟨(aA eC).trans l.o.box,p.congr λk=> ?_⟩;unfold Qx;by_cases j:k=s
  ·subst j;rw[aq rfl,aq (by simp[nF])]
  ·rw[ah j];have:nF (bs++[s]) k=nF bs k:=by
    rw[aP];simp[nF];exact λe=>ay e.symm j
   rw[this]
 have A:((w.alloc (.cells #[.string s,.int .i64 a] 163)).putObj mb o).heap[w.heap.size]? =some (.cells #[.string s,.int .i64 a] 163 (0,0)):=(aA (by omega)).trans n;have j:=hI (show _/\_/\_ from⟨x,y,A⟩);have C:=af B;obtain⟨old,hold⟩:=xE (nF bs s);rw[<-hold]at r |-;clear f g n p u eC m x y A hold
 go_enter Tryz.func192,Tryz.ntmps192
 go_upto_region 3 with fail
 refine eR (λY=>Fix (λq=>q=mb) w Y/\vk Y qm mb (bs++[s])/\Y.heap[w.heap.size]? =some (.cells #[.string s,.int .i64 a] 163 (0,0))) j.o ?_;clear r t j;rintro Y ⟨m,u,g⟩;have A:=cZ g;have D:=eY g;have z0:=af A;obtain⟨n,p,x⟩:=h_3 m u g;clear m u g;cases old with
 |true=>
  go_wp2;go_ret;exact⟨rfl,p.o,n.o⟩
 |false=>
  cases j:eV s with
  |false=>
   have g:=hI (BS s Y i);rw[j]at g
   go_wp2_with fail
   refine g.o.mono ?_;rintro e u ⟨rfl,d⟩;have m:=hI d;clear d;go_wp2;go_ret;exact⟨by rw[j];rfl,p.o.below m.o,n.o.below m.o⟩
  |true=>
   have g:=hI (BS s Y i);rw[j]at g
   go_wp2_with fail
   refine g.o.mono ?_;rintro e u ⟨rfl,d⟩;have r:=bQ x.o d z0;have c1:=eY r;have z2:=af c1;have m:=hI d;have y:=hI (oR a 0 4 u);clear d r
   go_wp2_with fail
   refine y.o.mono ?_;rintro e E ⟨rfl,r⟩;have t:=hI (ag m.o r lR);clear r;go_wp2;go_ret;exact⟨by rw[j];rfl,p.o.below t.o,n.o.below t.o⟩
theorem Fix.ahu{A W:World}(h:Fix E A W){L:Nat}(c:∀b,E b->b<L):cq L A W:=
 ⟨h.size,λb o d a=>(h.block b (gE a).1 λe=>by have:=c b e;omega).trans a⟩
theorem EN{l:List sr}{bs:List ByteArray}{k:Nat}(h:k<l.length){x:Bool}(a:(!nF (bs++uy l k) (bS l k).name&&(eV (bS l k).name&&fX (bS l k).args 0 4))=x)(e:gK bs l=gK (bs++uy l k) (l.drop k)):
 gK bs l=(x&&gK (bs++uy l (k+1)) (l.drop (k+1))):=by rw[e,KM h,a]
theorem B7{B qm mb:Nat}(bs:List ByteArray)(l:List sr)(v:Value)(W:World)(j:vk W qm mb bs)(m:gD W B v l)(hB:B<=W.heap.size)(hm:B<=mb):
 Calls Tryz.prog 195 #[v,.func (.func 192) #[] #[.pointer (some ⟨qm,0,none⟩)]] W λe W'=>
  (e=.returned (.bool true)/\gK bs l=true/\vk W' qm mb (bs++uy l l.length)/\Fix (λq=>q=mb) W W')\/(e=.returned (.bool false)/\gK bs l=false/\Fix (λq=>q=mb) W W'):=by
 have o:=m;obtain⟨c,p,hc⟩:=m;have g:=j.map.lt;refine(Oc W.heap.size v l.length c 192 #[.pointer (some ⟨qm,0,none⟩)]
  (λk X=>vk X qm mb (bs++uy l k)/\gK bs l=gK (bs++uy l k) (l.drop k)/\Fix (λq=>q=mb) W X) (λ_ X=>gK bs l=false/\Fix (λq=>q=mb) W X) W lR
  (λk a=>⟨_,_,(hc k a).1,(hc k a).2.1⟩) (enters_of Tryz.func192 (by kernel_rfl) rfl)
  (λk X r h d=>⟨h.1.below d,h.2.1,h.2.2.below d⟩)
  (λk X h=>(p.below (h.2.2.toBelow hB (λb e=>by rw[e];exact hm)) lR).mono (ai hB h.2.2.size))
  (λk a X h=> ?_) ⟨by rw[show uy l 0=[]from rfl,bk];exact j,by rw[show uy l 0=[]from rfl,bk];rfl,Fix.refl _ _⟩).mono ?_
 ·obtain⟨i,d,f⟩:=h;rw[(hc k a).1,(hc k a).2.1];refine(Od (bs++uy l k) (bS l k).name (bS l k).args (hc k a).2.2 qm mb X i).mono ?_;rintro e r ⟨rfl,g1,g2⟩;cases n:(!nF (bs++uy l k) (bS l k).name&&(eV (bS l k).name&&fX (bS l k).args 0 4))with
  |true=>exact .inl ⟨rfl,⟨by rw[Ea a,<-aG];exact g1,by rw[EN a n d];rfl,f.trans g2⟩,g2.ahu λb e=>by rw[e];exact g⟩
  |false=>exact .inr ⟨rfl,by rw[EN a n d];rfl,f.trans g2⟩
 ·rintro e X (⟨rfl,⟨i,d,f⟩,_⟩|⟨k,_,rfl,d,f⟩)
  ·exact .inl ⟨rfl,by rw[d,List.drop_length];rfl,i,f⟩
  ·exact .inr ⟨rfl,d,f⟩
theorem z_(s:Sg)(cv fv:Value)(w:World)(B:Nat)(hc:gD w B cv s.cons)(C:gD w B fv s.bj)(hB:B<=w.heap.size):
 aH Tryz.prog 145 #[.agg #[cv,fv]] w (.int .i64 (if fA s then 0 else 2)):=by
 have V:=hc.small;have W:=C.small;obtain⟨u,cc,rfl⟩:=hc.slice;obtain⟨v,x,rfl⟩:=C.slice;obtain⟨i,a⟩:=nH3 w (.cells #[.slice u s.cons.length cc,.slice v s.bj.length x] 39) (.map #[] 0) (.cells #[.map (some (w.heap.size+1))] 229);have j:vk (((w.alloc (.cells #[.slice u s.cons.length cc,.slice v s.bj.length x] 39)).alloc (.map #[] 0)).alloc (.cells #[.map (some (w.heap.size+1))] 229)) (w.heap.size+2) (w.heap.size+1) []:=by
  refine⟨a.2.2,?_⟩;have h:=eu.new (w.alloc (.cells #[.slice u s.cons.length cc,.slice v s.bj.length x] 39)) U2;rw[show(w.alloc (.cells #[.slice u s.cons.length cc,.slice v s.bj.length x] 39)).heap.size=w.heap.size+1 by simp]at h;exact(h.below (Below.cA _ _) (by simp)).congr λk=>rfl
 have q:=hI (show _/\_/\_ from⟨i,j,a.1⟩);have X:= @run_makeMap Tryz.prog;have Y:∀(fn:Fn) (first cap:Array Value) (w:World),(Instr.makeFunc fn first cap).run Tryz.prog w=.ok (.func fn first cap) w:=λ_ _ _ _=>rfl;obtain⟨F,O,D⟩:=h_3 hc C hB;clear hc C hB i a j;unfold aH;obtain⟨rv,l⟩:∃rv:Int,rv=if fA s then 0 else 2:=⟨_,rfl⟩;rw[<-l];cases c1:fX (s.cons.length:Int) 2 12 with
 |false=>
  have m:Hd (rv=2):=hI (by rw[l];unfold fA;rw[c1];rfl);have g:=hI c1;clear c1 l
  go_enter Tryz.func145,Tryz.ntmps145
  go_wp2_with (go_at_call 194;refine(oR _ _ _ _).mono ?_;rintro e w' ⟨rfl,c⟩;rw[g.o];have a:=hI (ag q.o.1 c lR);clear c)
  go_ret;exact⟨by rw[m.o];rfl,a.o⟩
 |true=>
  have g:=hI c1;by_cases c2:s.bj.length<=8
  case neg=>
   have d2:decide ((8:Int)<(s.bj.length:Int))=true:=by simp;omega
   have m:Hd (rv=2):=hI (by rw[l];unfold fA;rw[c1,aB c2];rfl);clear c1 l c2
   go_enter Tryz.func145,Tryz.ntmps145
   go_wp2_with fail
   refine(oR _ _ _ _).mono ?_;rintro e H ⟨rfl,c⟩;rw[g.o];have n:=cY c q.o.2.2;have y:=eY n;have P:=af y;have a:=hI (ag q.o.1 c lR);clear c n;go_wp2;go_ret;exact⟨by rw[m.o];rfl,a.o⟩
  case pos=>
   have d2:decide ((8:Int)<(s.bj.length:Int))=false:=by simp;omega
   have a:2<=s.cons.length/\s.cons.length<=12:=by unfold fX at c1;simp at c1;omega
   have m:Hd (fA s=(Be (bS s.cons 0) oq&&Be (bS s.cons 1) uU&&(gK [] s.cons&&gK (uy s.cons s.cons.length) s.bj))):=hI (by
    unfold fA;rw[c1,aI c2,oP];rfl)
   have G:=hI l;have o:=hI a;clear c1 l c2 a
   go_enter Tryz.func145,Tryz.ntmps145
   go_wp2_with fail
   refine(oR _ _ _ _).mono ?_;rintro e H ⟨rfl,c⟩;rw[g.o];have n:=cY c q.o.2.2;have I:=cZ n;have y:=eY n;have P:=af y;have i:=q.o.2.1.below c;have a:=ag q.o.1 c lR;obtain⟨J,z,K⟩:=h_3 (B7 (B:=w.heap.size) [] s.cons (.slice u s.cons.length cc) H i ((F.o.mono D.o).below a lR) a.size (by omega)) a n;clear c n i a
   go_wp2_with fail
   refine J.o.mono ?_;rintro e Q (⟨rfl,d,j,a⟩|⟨rfl,d,a⟩)
   ·rw[bL]at j;have f:=(a.block _ (by have:=z.o.size;have:=(gE K.o).1;omega) (by omega)).trans K.o;have y:=eY f;have z3:=af y;have i:=(z.o).trans (a.toBelow z.o.size (λb e=>by omega));obtain⟨L,p,M,N⟩:=h_4 (B7 (B:=w.heap.size) (uy s.cons s.cons.length) s.bj (.slice v s.bj.length x) Q j ((O.o.mono D.o).below i lR) i.size (by omega)) i f d;clear j a f i d J
    go_wp2_with fail
    refine L.o.mono ?_;rintro e R (⟨rfl,d,j,a⟩|⟨rfl,d,a⟩)
    ·have E:=(a.block _ (by have:=p.o.size;have:=(gE M.o).1;omega) (by omega)).trans M.o;have I:=cZ E;have z4:=af I;have i:=(p.o).trans (a.toBelow p.o.size (λb e=>by omega));obtain⟨b,off,cap,he,Z,x0,x1,_⟩:=fJ (F.o.mono D.o) i (k:=0) (by have:=o.o;omega);cases he;obtain⟨b',Ec,oh,he,_,S,T,_⟩:=fJ (F.o.mono D.o) i (k:=1) (by have:=o.o;omega);cases he;have zb:b<R.heap.size:=by have:=i.size;omega
     have U:(2:Int)<=(s.cons.length:Int):=by have:=o.o;omega
     have l0:(0:Int)<(s.cons.length:Int):=by omega
     have l1:(1:Int)<(s.cons.length:Int):=by omega
     have r:=v8 (bS s.cons 0) oq;have q1:=v8 (bS s.cons 1) uU;have f:Hd (rv=if Be (bS s.cons 0) oq&&Be (bS s.cons 1) uU then 0 else 2):=hI (by rw[G.o,m.o,N.o,d];simp);have A:=hI i;rw[Nat.zero_mul,Nat.add_zero]at x0 x1;rw[Nat.one_mul]at S T;clear d j a E i L U;cases t:Be (bS s.cons 0) oq
     ·rw[t]at r f;unfold oq at r;have i:Hd (rv=2):=hI (by rw[f.o];rfl);clear t f q1;go_wp2;go_ret;exact⟨by rw[i.o];rfl,A.o⟩
     ·cases E:Be (bS s.cons 1) uU
      ·rw[t]at r f;rw[E]at q1 f;unfold oq at r;unfold uU at q1;have i:Hd (rv=2):=hI (by rw[f.o];rfl);clear t E f;go_wp2;go_ret;exact⟨by rw[i.o];rfl,A.o⟩
      ·rw[t]at r f;rw[E]at q1 f;unfold oq at r;unfold uU at q1;have i:Hd (rv=0):=hI (by rw[f.o];rfl);clear t E f;go_wp2;go_ret;exact⟨by rw[i.o];rfl,A.o⟩
    ·have i:Hd (rv=2):=hI (by rw[G.o,m.o,N.o,d];simp);have A:=hI ((p.o).trans (a.toBelow p.o.size (λb e=>by omega)));clear d a;go_wp2;go_ret;exact⟨by rw[i.o];rfl,A.o⟩
   ·have i:Hd (rv=2):=hI (by rw[G.o,m.o,d];simp);have p:=hI ((z.o).trans (a.toBelow z.o.size (λb e=>by omega)));clear d a;go_wp2;go_ret;exact⟨by rw[i.o];rfl,p.o⟩
attribute [local go_sem] aT cW df
def Dk(f:Nat):Value:=.func (.func f) #[] #[]
def eW(j:Nat):Array Value:= #[.nilFunc,Dk 279,Dk 280,Dk 281,Dk 282,Dk 283,
 if 6<j then Dk 285 else .nilFunc,if 7<j then Dk 285 else .nilFunc,Dk 284,if 9<j then Dk 285 else .nilFunc,if 10<j then Dk 285 else .nilFunc,
 if 11<j then Dk 285 else .nilFunc,if 12<j then Dk 285 else .nilFunc,if 13<j then Dk 285 else .nilFunc,if 14<j then Dk 285 else .nilFunc,if 15<j then Dk 285 else .nilFunc]
theorem Si(w:World):Calls Tryz.prog 260 #[] w λe w'=>e=.returned (.agg (eW 16))/\Below w.heap.size w w':=by
 have o:=hI (cH w (.cells (Array.replicate 16 .nilFunc) 272) (.cells (eW 0) 272))
 go_enter Tryz.func260,Tryz.ntmps260
 go_wp2;refine eR (λY=>Below w.heap.size w Y/\Y.heap[w.heap.size]? =some (.cells (Array.replicate 16 .nilFunc) 272 (0,0))/\Y.heap[w.heap.size+1]? =some (.cells (eW 0) 272 (0,0))) ⟨Below.jE _ _ _,o.o⟩ ?_;rintro Y ⟨a,b,c⟩;obtain⟨q,l,r⟩:=h_3 a b c;clear a b c;have qf:∀(f:Nat) (w:World),(binOp .eql 271 (.func (.func f) #[] #[]) .nilFunc).run Tryz.prog w=.ok (.bool false) w:=λf w=>by kernel_rfl
 have u:∀(w:World),(binOp .eql 271 .nilFunc .nilFunc).run Tryz.prog w=.ok (.bool true) w:=λw=>by kernel_rfl
 go_loopw [4] (λi wr=>∃j:Nat,j<=16/\i=.int .i64 j/\Below w.heap.size w wr/\wr.heap[w.heap.size]? =some (.cells (Array.replicate 16 .nilFunc) 272 (0,0))/\wr.heap[w.heap.size+1]? =some (.cells (eW j) 272 (0,0))) (λi _=>16-(intOf i).toNat)
 case atStart=>exact⟨0,by omega,rfl,q.o,l.o,r.o⟩
 case round=>
  obtain⟨j,x,rfl,g,k,a⟩:=hrel;obtain⟨b,c,d⟩:=h_3 g k a;have y:=(gE a).1;clear g k;rcases(by omega:j=0\/j=1\/j=2\/j=3\/j=4\/j=5\/j=8\/j=6\/j=7\/j=9\/j=10\/j=11\/j=12\/j=13\/j=14\/j=15\/j=16)with rfl|rfl|rfl|rfl|rfl|rfl|rfl|rfl|rfl|rfl|rfl|rfl|rfl|rfl|rfl|rfl|rfl
  ·have c0:wr.cell? ⟨w.heap.size+1,0,none⟩=(eW 0)[0]? :=by rw[cell_of_row _ _ _ _ _ _ a]
   have c1:(eW 0)[0]? =some ((eW 16)[0]?.getD undef):=rfl;rw[c1]at c0;unfold eW Dk at c0;simp only[aF,cF,cG,bK]at c0;clear a c1;go_wp2
   go_roundw
   case rel=>exact⟨0+1,by omega,rfl,b.o,c.o,d.o⟩
   case measure=>simp[intOf]
  ·have c0:wr.cell? ⟨w.heap.size+1,1,none⟩=(eW 1)[1]? :=by rw[cell_of_row _ _ _ _ _ _ a]
   have c1:(eW 1)[1]? =some ((eW 16)[1]?.getD undef):=rfl;rw[c1]at c0;unfold eW Dk at c0;simp only[aF,cF,cG,bK]at c0;clear a c1;go_wp2
   go_roundw
   case rel=>exact⟨1+1,by omega,rfl,b.o,c.o,d.o⟩
   case measure=>simp[intOf]
  ·have c0:wr.cell? ⟨w.heap.size+1,2,none⟩=(eW 2)[2]? :=by rw[cell_of_row _ _ _ _ _ _ a]
   have c1:(eW 2)[2]? =some ((eW 16)[2]?.getD undef):=rfl;rw[c1]at c0;unfold eW Dk at c0;simp only[aF,cF,cG,bK]at c0;clear a c1;go_wp2
   go_roundw
   case rel=>exact⟨2+1,by omega,rfl,b.o,c.o,d.o⟩
   case measure=>simp[intOf]
  ·have c0:wr.cell? ⟨w.heap.size+1,3,none⟩=(eW 3)[3]? :=by rw[cell_of_row _ _ _ _ _ _ a]
   have c1:(eW 3)[3]? =some ((eW 16)[3]?.getD undef):=rfl;rw[c1]at c0;unfold eW Dk at c0;simp only[aF,cF,cG,bK]at c0;clear a c1;go_wp2
   go_roundw
   case rel=>exact⟨3+1,by omega,rfl,b.o,c.o,d.o⟩
   case measure=>simp[intOf]
  ·have c0:wr.cell? ⟨w.heap.size+1,4,none⟩=(eW 4)[4]? :=by rw[cell_of_row _ _ _ _ _ _ a]
   have c1:(eW 4)[4]? =some ((eW 16)[4]?.getD undef):=rfl;rw[c1]at c0;unfold eW Dk at c0;simp only[aF,cF,cG,bK]at c0;clear a c1;go_wp2
   go_roundw
   case rel=>exact⟨4+1,by omega,rfl,b.o,c.o,d.o⟩
   case measure=>simp[intOf]
  ·have c0:wr.cell? ⟨w.heap.size+1,5,none⟩=(eW 5)[5]? :=by rw[cell_of_row _ _ _ _ _ _ a]
   have c1:(eW 5)[5]? =some ((eW 16)[5]?.getD undef):=rfl;rw[c1]at c0;unfold eW Dk at c0;simp only[aF,cF,cG,bK]at c0;clear a c1;go_wp2
   go_roundw
   case rel=>exact⟨5+1,by omega,rfl,b.o,c.o,d.o⟩
   case measure=>simp[intOf]
  ·have c0:wr.cell? ⟨w.heap.size+1,8,none⟩=(eW 8)[8]? :=by rw[cell_of_row _ _ _ _ _ _ a]
   have c1:(eW 8)[8]? =some ((eW 16)[8]?.getD undef):=rfl;rw[c1]at c0;unfold eW Dk at c0;simp only[aF,cF,cG,bK]at c0;clear a c1;go_wp2
   go_roundw
   case rel=>exact⟨8+1,by omega,rfl,b.o,c.o,d.o⟩
   case measure=>simp[intOf]
  ·have c0:wr.cell? ⟨w.heap.size+1,6,none⟩=some .nilFunc:=by rw[cell_of_row _ _ _ _ _ _ a];rfl
   have f0:wr.frozen? ⟨w.heap.size+1,6,none⟩=false:=by simp[World.frozen?,a]
   clear a;go_wp2
   go_roundw
   case rel=>exact⟨6+1,by omega,rfl,Below.setCell b.o (p:=⟨w.heap.size+1,6,none⟩) (by simp) _,(au _ _ _ _ (by simp)).trans c.o,by rw[cz d.o];rfl⟩
   case measure=>simp[intOf]
  ·have c0:wr.cell? ⟨w.heap.size+1,7,none⟩=some .nilFunc:=by rw[cell_of_row _ _ _ _ _ _ a];rfl
   have f0:wr.frozen? ⟨w.heap.size+1,7,none⟩=false:=by simp[World.frozen?,a]
   clear a;go_wp2
   go_roundw
   case rel=>exact⟨7+1,by omega,rfl,Below.setCell b.o (p:=⟨w.heap.size+1,7,none⟩) (by simp) _,(au _ _ _ _ (by simp)).trans c.o,by rw[cz d.o];rfl⟩
   case measure=>simp[intOf]
  ·have c0:wr.cell? ⟨w.heap.size+1,9,none⟩=some .nilFunc:=by rw[cell_of_row _ _ _ _ _ _ a];rfl
   have f0:wr.frozen? ⟨w.heap.size+1,9,none⟩=false:=by simp[World.frozen?,a]
   clear a;go_wp2
   go_roundw
   case rel=>exact⟨9+1,by omega,rfl,Below.setCell b.o (p:=⟨w.heap.size+1,9,none⟩) (by simp) _,(au _ _ _ _ (by simp)).trans c.o,by rw[cz d.o];rfl⟩
   case measure=>simp[intOf]
  ·have c0:wr.cell? ⟨w.heap.size+1,10,none⟩=some .nilFunc:=by rw[cell_of_row _ _ _ _ _ _ a];rfl
   have f0:wr.frozen? ⟨w.heap.size+1,10,none⟩=false:=by simp[World.frozen?,a]
   clear a;go_wp2
   go_roundw
   case rel=>exact⟨10+1,by omega,rfl,Below.setCell b.o (p:=⟨w.heap.size+1,10,none⟩) (by simp) _,(au _ _ _ _ (by simp)).trans c.o,by rw[cz d.o];rfl⟩
   case measure=>simp[intOf]
  ·have c0:wr.cell? ⟨w.heap.size+1,11,none⟩=some .nilFunc:=by rw[cell_of_row _ _ _ _ _ _ a];rfl
   have f0:wr.frozen? ⟨w.heap.size+1,11,none⟩=false:=by simp[World.frozen?,a]
   clear a;go_wp2
   go_roundw
   case rel=>exact⟨11+1,by omega,rfl,Below.setCell b.o (p:=⟨w.heap.size+1,11,none⟩) (by simp) _,(au _ _ _ _ (by simp)).trans c.o,by rw[cz d.o];rfl⟩
   case measure=>simp[intOf]
  ·have c0:wr.cell? ⟨w.heap.size+1,12,none⟩=some .nilFunc:=by rw[cell_of_row _ _ _ _ _ _ a];rfl
   have f0:wr.frozen? ⟨w.heap.size+1,12,none⟩=false:=by simp[World.frozen?,a]
   clear a;go_wp2
   go_roundw
   case rel=>exact⟨12+1,by omega,rfl,Below.setCell b.o (p:=⟨w.heap.size+1,12,none⟩) (by simp) _,(au _ _ _ _ (by simp)).trans c.o,by rw[cz d.o];rfl⟩
   case measure=>simp[intOf]
  ·have c0:wr.cell? ⟨w.heap.size+1,13,none⟩=some .nilFunc:=by rw[cell_of_row _ _ _ _ _ _ a];rfl
   have f0:wr.frozen? ⟨w.heap.size+1,13,none⟩=false:=by simp[World.frozen?,a]
   clear a;go_wp2
   go_roundw
   case rel=>exact⟨13+1,by omega,rfl,Below.setCell b.o (p:=⟨w.heap.size+1,13,none⟩) (by simp) _,(au _ _ _ _ (by simp)).trans c.o,by rw[cz d.o];rfl⟩
   case measure=>simp[intOf]
  ·have c0:wr.cell? ⟨w.heap.size+1,14,none⟩=some .nilFunc:=by rw[cell_of_row _ _ _ _ _ _ a];rfl
   have f0:wr.frozen? ⟨w.heap.size+1,14,none⟩=false:=by simp[World.frozen?,a]
   clear a;go_wp2
   go_roundw
   case rel=>exact⟨14+1,by omega,rfl,Below.setCell b.o (p:=⟨w.heap.size+1,14,none⟩) (by simp) _,(au _ _ _ _ (by simp)).trans c.o,by rw[cz d.o];rfl⟩
   case measure=>simp[intOf]
  ·have c0:wr.cell? ⟨w.heap.size+1,15,none⟩=some .nilFunc:=by rw[cell_of_row _ _ _ _ _ _ a];rfl
   have f0:wr.frozen? ⟨w.heap.size+1,15,none⟩=false:=by simp[World.frozen?,a]
   clear a;go_wp2
   go_roundw
   case rel=>exact⟨15+1,by omega,rfl,Below.setCell b.o (p:=⟨w.heap.size+1,15,none⟩) (by simp) _,(au _ _ _ _ (by simp)).trans c.o,by rw[cz d.o];rfl⟩
   case measure=>simp[intOf]
  ·have s:(eW 16).toList.length=16:=rfl;have m:(Tryz.prog.info? 272).map (·.size)=some 16:=by kernel_rfl
   have g:wr.there w.heap.size 0 (eW 16).size:=uN c.o (by rfl);have k:=hI (show _/\_/\_/\_ from⟨mP a,g,m,run_loadVar_mid (P:=Tryz.prog) _ w.heap.size 0 272 (eW 16).toList _ (World.rangeAt_setCells_same wr _ 0 _ g) Tryz.underlying272 rfl m⟩);have t:=hI (h_ lR (eW 16).toList 0 wr b.o);have n:Hd ((eW 16).all (·.oneCell')=true):=hI (by simp[eW,Dk,Value.oneCell']);clear a g m
   go_wp2_with (first|(refine wpList_load_mid rfl 272 _ rfl _ _ rfl _ _ k.o.1 Tryz.underlying272 rfl k.o.2.2.1 ?_)|(refine wpList_store_mid rfl 272 _ _ rfl w.heap.size 0 (eW 16) rfl rfl k.o.2.1 k.o.2.2.1 n.o ?_))
   exact bodyPost_ret (v:=.agg (eW 16)) (di rfl rfl k.o.2.2.2) rfl ⟨rfl,t.o⟩
def q7(d:Int):Fo->List (Nd×Int)
 | .nil=>[]
 | .cons a n k r=>(⟨a,n,k⟩,d)::(q7 (d+1) k++q7 d r)
def lY(d:Int)(t:Nd):List (Nd×Int):=(t,d)::q7 (d+1) t.k
def m8(d:Int):Fo->Nat->List (Nd×Int)
 | .nil,_=>[]
 | .cons _ _ _ _,0=>[]
 | .cons a n k r,i+1=>lY d ⟨a,n,k⟩++m8 d r i
theorem B8(d:Int):∀F:Fo,m8 d F 0=[]
 | .nil=>rfl
 | .cons _ _ _ _=>rfl
theorem vm(d:Int):∀{F:Fo} {i:Nat},i<F.len->m8 d F (i+1)=m8 d F i++lY d (F.at i)
 | .nil,_,h=>ay h (ax _)
 | .cons a n k r,0,_=>by unfold m8;rw[B8];simp[Fo.at]
 | .cons a n k r,i+1,h=>by
  show lY d ⟨a,n,k⟩++m8 d r (i+1)=lY d ⟨a,n,k⟩++m8 d r i++lY d (r.at i);rw[vm d (F:=r) (i:=i) (by unfold Fo.len at h;omega),aG]
theorem ES(d:Int):∀F:Fo,m8 d F F.len=q7 d F
 | .nil=>rfl
 | .cons a n k r=>by
  show lY d ⟨a,n,k⟩++m8 d r r.len=_;rw[ES d r];simp[lY,q7]
theorem B9(d:Int):∀(F:Fo) (i:Nat),∃rest,q7 d F=m8 d F i++rest
 | .nil,_=>⟨[],rfl⟩
 | .cons a n k r,0=>⟨q7 d (.cons a n k r),rfl⟩
 | .cons a n k r,i+1=>by
  obtain⟨rest,h⟩:=B9 d r i;exact⟨rest,by show(⟨⟨a,n,k⟩,d⟩:Nd×Int)::(q7 (d+1) k++q7 d r)=_;rw[h];simp[m8,lY]⟩
theorem Bo(d:Int):∀F:Fo,(q7 d F).map (·.1)=iU F
 | .nil=>rfl
 | .cons a n k r=>by
  unfold q7 iU;rw[bz,bA,Bo (d+1) k,Bo d r]
theorem Lu(d:Int)(t:Nd):(lY d t).map (·.1)=dM t:=by unfold lY dM;rw[bz,Bo]
def Wa(q1 a:Nat):Value:=.func (.func 256) #[] #[.pointer (some ⟨q1,0,none⟩),.pointer (some ⟨a,0,none⟩)]
theorem Sk(c i:Nat)(d a n:Int)(sv:Option Addr)(len cap q1:Nat)(X:World)(R:Ending->World->Prop)(k:0<=d/\d<=1000000000)
 (f:X.heap[c]? =some (.cells #[Wa q1 c] 210 (0,0))) (g:X.heap[i]? =some (.cells #[.int .i64 d] 3 (0,0)))
 (hc:∀j,Below X.heap.size X j->Calls Tryz.prog 256 #[.agg #[.int .i64 a,.int .i64 n,.slice sv len cap],.int .i64 (d+1),.pointer (some ⟨q1,0,none⟩),.pointer (some ⟨c,0,none⟩)] j R)
 (j:∀e W,R e W->∃b,e=.returned (.bool b)):
 Calls Tryz.prog 257 #[.agg #[.int .i64 a,.int .i64 n,.slice sv len cap],.pointer (some ⟨c,0,none⟩),.pointer (some ⟨i,0,none⟩)] X R:=by
 have c2:=cZ f;have c3:=cZ g;unfold Wa at c2;have z2:=af c2;have z3:=af c3;have o:∀args w,(callFunc 256 args).run Tryz.prog w=.ok (.enter 256 args) w:=enters_of Tryz.func256 (by kernel_rfl) rfl;have l:=hI (hc _ (Below.cA X (.cells #[.int .i64 a,.int .i64 n,.slice sv len cap] 54)));have m:=hI j;obtain⟨p,q⟩:=k;clear hc j f g
 go_enter Tryz.func257,Tryz.ntmps257
 go_wp2_with fail
 refine l.o.mono ?_;intro e j f;obtain⟨b,rfl⟩:=m.o e j f;have g:=hI f;clear f;go_wp2;exact g.o
theorem ac0(l L p:Nat)(w0:World)(M:p<=w0.heap.size)(T:p<=L)(all:List (Nd×Int))(J r:List (Nd×Int)->World->Prop)
 (x:∀pre W W',J pre W->Below W.heap.size W W'->J pre W') (hB:∀pre W,J pre W->Below p w0 W)
 (E:∀pre t d post v W,pre++(t,d)::post=all->J pre W->cV w0 p v t->YieldAt Fence.wide 0 Tryz.prog l #[v,.int .i64 d] W λe W'=>(e=.returned (.bool true)/\J (pre++[(t,d)]) W'/\cq L W W')\/(e=.returned (.bool false)/\r (pre++[(t,d)]) W'))
 (q1 f:Nat) (y:L<=q1) (g:L<=f):∀(m:Nat) (t:Nd) (d:Int) (v:Value) (pre post:List (Nd×Int)) (W:World),t.size<=m->0<=d->d+t.size<=1000000000->cV w0 p v t->pre++lY d t++post=all->J pre W->L<=W.heap.size->
  W.heap[q1]? =some (.cells #[.func (.yield l) #[] #[]] 210 (0,0))->W.heap[f]? =some (.cells #[Wa q1 f] 210 (0,0))->
  Calls Tryz.prog 256 #[v,.int .i64 d,.pointer (some ⟨q1,0,none⟩),.pointer (some ⟨f,0,none⟩)] W λe W'=>(e=.returned (.bool true)/\J (pre++lY d t) W'/\cq L W W')\/(e=.returned (.bool false)/\∃q,r q W')
 |0,t,_,_,_,_,_,h,_,_,_,_,_,_,_,_=>ay h (by unfold Nd.size;omega)
 |m+1,t,d,v,pre,post,W,hm,hd,H,N,he,O,I,B,s=>by
  have P:=N;obtain⟨kv,rfl,c,C,K⟩:=N;have Je:1<=t.size:=by unfold Nd.size;omega
  have U:Hd (∀V,J (pre++[(t,d)]) V->cq L W V->V.heap[W.heap.size+1]? =some (.cells #[.int .i64 d] 3 (0,0))->Calls Tryz.prog 233 #[kv,.func (.func 257) #[] #[.pointer (some ⟨f,0,none⟩),.pointer (some ⟨W.heap.size+1,0,none⟩)]] V λe W'=>
   (e=.returned (.bool true)/\J (pre++lY d t) W'/\cq L W W')\/(e=.returned (.bool false)/\∃q,r q W')):=hI λV z i Y=>by
   refine(EM L kv t.k.len c 257 #[.pointer (some ⟨f,0,none⟩),.pointer (some ⟨W.heap.size+1,0,none⟩)] (λk X=>J (pre++[(t,d)]++m8 (d+1) t.k k) X/\cq L V X) (λ_ X=>∃q,r q X) V (ai I i.1)
    (λk u=>by obtain⟨c0,c1,c2⟩:=K.at u;obtain⟨Q,R,e⟩:=c2.slice;exact⟨_,_,_,_,_,c0,c1,e⟩) (enters_of Tryz.func257 (by kernel_rfl) rfl)
    (λk X j h D=>⟨x _ X j h.1 D,h.2.below D⟩)
    (λk X h=>(C.below (hB _ X h.1) lR).mono (ai M (hB _ X h.1).size))
    (λk u X h=> ?_) ⟨by rw[B8,bk];exact z,cq.refl _ _⟩).mono ?_
   ·obtain⟨c0,c1,c2⟩:=K.at u;obtain⟨Q,R,Z⟩:=c2.slice;obtain⟨rest,xC⟩:=B9 (d+1) t.k (k+1);have hz:=Fo.eD u;have S:∀j,Below X.heap.size X j->_:=λj G=>ac0 l L p w0 M T all J r x hB E q1 f y g m (t.k.at k) (d+1) (.agg #[c (k*3),c (k*3+1),c (k*3+2)]) (pre++[(t,d)]++m8 (d+1) t.k k) (rest++post) j
     (by unfold Nd.size at hm |-;omega) (by omega) (by unfold Nd.size at H |-;omega) ⟨_,by rw[c0,c1],c2⟩
     (by rw[<-he];unfold lY at*;rw[xC,vm (d+1) u];simp[aG,lY]) (x _ _ _ h.1 G) (ai I (ai i.1 (ai h.2.1 G.size))) (G.block _ (gE (h.2.2 _ _ y (i.2 _ _ y B))).1 |>.trans (h.2.2 _ _ y (i.2 _ _ y B))) (G.block _ (gE (h.2.2 _ _ g (i.2 _ _ g s))).1 |>.trans (h.2.2 _ _ g (i.2 _ _ g s)))
    rw[c0,c1,Z]at S |-;refine Sk f (W.heap.size+1) d _ _ Q _ R q1 X _ (by omega) (h.2.2 _ _ g (i.2 _ _ g s)) (h.2.2 _ _ (by omega) Y) (λj G=>(S j G).mono λe X'' hc=>hc.elim (fun⟨A,a2,a3⟩=>.inl ⟨A,⟨?_,(h.2.below G).trans a3⟩,(cq.cB G).trans a3⟩) .inr) ?_
    ·rw[vm (d+1) u,<-aG];exact a2
    ·rintro e j (⟨rfl,_⟩|⟨rfl,_⟩)<;>exact⟨_,rfl⟩
   ·rintro e X (⟨rfl,⟨G,j⟩,_⟩|⟨k,_,rfl,hx⟩)
    ·rw[ES]at G;exact .inl ⟨rfl,by unfold lY;rw[<-List.singleton_append,<-aG];exact G,i.trans j⟩
    ·exact .inr ⟨rfl,hx⟩
  have G:Hd (∀V,Below W.heap.size W V->YieldAt Fence.wide 0 Tryz.prog l #[.agg #[.int .i64 t.a,.int .i64 t.n,kv],.int .i64 d] V λe W'=>(e=.returned (.bool true)/\J (pre++[(t,d)]) W'/\cq L W W'/\W'.heap[f]? =some (.cells #[Wa q1 f] 210 (0,0))/\(∀b o,W.heap.size<=b->V.heap[b]? =some o->W'.heap[b]? =some o))\/(e=.returned (.bool false)/\∃q,r q W')):=hI λV z=>
   (E pre t d (q7 (d+1) t.k++post) _ V (by rw[<-he];simp[lY]) (x _ _ _ O z) P).mono λe W' hc=>hc.elim
    (fun⟨A,a2,a3⟩=>.inl ⟨A,a2,(cq.cB z).trans a3,a3.2 _ _ g (z.block f (gE s).1 |>.trans s),λb o D i=>a3.2 _ _ (ai I D) i⟩) fun⟨A,a2⟩=>.inr ⟨A,_,a2⟩
  have D:=cZ B;have S:q1<W.heap.size:=af D;obtain⟨ka,kc,rfl⟩:∃a b,kv=.slice a t.k.len b:=by obtain⟨_,a,b,Q,_⟩:=C;exact⟨a,b,Q⟩
  obtain⟨fn,tmps,assign,body,hy,i⟩:=jo (F:=Fence.wide) rfl 0 (G.o ((W.alloc (.cells #[.int .i64 t.a,.int .i64 t.n,.slice ka t.k.len kc] 54)).alloc (.cells #[.int .i64 d] 3)) (Below.jE _ _ _));have j:=hI (cH W (.cells #[.int .i64 t.a,.int .i64 t.n,.slice ka t.k.len kc] 54) (.cells #[.int .i64 d] 3));have R:=hI i;have Y:t.k.len<=140737488355328:=C.1;have Z:∀(fn:Fn) (first cap:Array Value) (w:World),(Instr.makeFunc fn first cap).run Tryz.prog w=.ok (.func fn first cap) w:=λ_ _ _ _=>rfl;clear i;clear P C K B s O G x hB E;refine(callsIn_wide (n:=0)).1 ?_;refine callsIn_of_wp Tryz.func256 rfl trivial ?_ rfl;simp only[Tryz.ntmps256,List.size_toArray,aD,List.length_nil,Nat.reduceAdd,Nat.reduceSub,Array.replicate_succ,Array.replicate_zero,List.push_toArray,List.append_toArray,bL,bJ]
  gi_wp2_with fail
  refine⟨rfl,?_⟩;refine R.o.mono ?_;rintro e u (⟨rfl,A,C,K,i⟩|⟨rfl,hx⟩)
  ·have d2:u.cell? ⟨W.heap.size,2,none⟩=some (.slice ka t.k.len kc):=by rw[cell_of_row _ _ _ _ _ _ (i _ _ lR j.o.1)];rfl
   have HE2:=hI (U.o u A C (i _ _ (Nat.le_succ _) j.o.2));clear A C K i hy
   gi_wp2_with fail
   exact amA
  ·have HX:=hI hx;clear hx
   gi_wp2_with fail
   refine⟨trivial,?_⟩
   gi_wp2
   go_ret;exact .inr ⟨rfl,HX.o⟩
theorem ac1(l L c:Nat)(w0:World)(u:c<=w0.heap.size)(x:c<=L)(all:List (Nd×Int))(J i:List (Nd×Int)->World->Prop)
 (j:∀pre W W',J pre W->Below W.heap.size W W'->J pre W') (hB:∀pre W,J pre W->Below c w0 W)
 (m:∀pre t d post v W,pre++(t,d)::post=all->J pre W->cV w0 c v t->YieldAt Fence.wide 0 Tryz.prog l #[v,.int .i64 d] W λe W'=>(e=.returned (.bool true)/\J (pre++[(t,d)]) W'/\cq L W W')\/(e=.returned (.bool false)/\i (pre++[(t,d)]) W'))
 (t:Nd) (a:Option Addr) (len cap k:Nat) (W:World) (n:cV w0 c (.agg #[.int .i64 t.a,.int .i64 t.n,.slice a len cap]) t) (o:lY 1 t=all) (z:t.size<=1000000)
 (hc:W.heap[k]? =some (.cells #[.int .i64 t.a,.int .i64 t.n,.slice a len cap] 54 (0,0))) (p:J [] W) (r:L<=W.heap.size):
 Calls Tryz.prog 255 #[.func (.yield l) #[] #[],.pointer (some ⟨k,0,none⟩)] W λe W'=>(∃v,e=.returned v)/\(J all W'\/∃q,i q W'):=by
 have A:∀args w,(callFunc 256 args).run Tryz.prog w=.ok (.enter 256 args) w:=enters_of Tryz.func256 (by kernel_rfl) rfl;have y:Hd (∀V,Below W.heap.size W V->V.heap[W.heap.size]? =some (.cells #[.func (.yield l) #[] #[]] 210 (0,0))->V.heap[W.heap.size+1]? =some (.cells #[Wa W.heap.size (W.heap.size+1)] 210 (0,0))->
  Calls Tryz.prog 256 #[.agg #[.int .i64 t.a,.int .i64 t.n,.slice a len cap],.int .i64 1,.pointer (some ⟨W.heap.size,0,none⟩),.pointer (some ⟨W.heap.size+1,0,none⟩)] V λe W'=>∃b,e=.returned (.bool b)/\(J all W'\/∃q,i q W')):=hI λV s f g=>
  (ac0 l L c w0 u x all J i j hB m W.heap.size (W.heap.size+1) r (by omega) _ t 1 _ [] [] V lR (by decide) (by omega) n (by simpa using o) (j _ _ _ p s) (ai r s.size) f g).mono λe W' h=>
   h.elim (fun⟨f,g,_⟩=>⟨true,f,.inl (by rw[<-o];exact g)⟩) fun⟨f,g⟩=>⟨false,f,.inr g⟩
 have c0:=cZ hc;have c1:=eY hc;have c2:=fu hc;have s:k<W.heap.size:=af c0;clear j hB m p n hc
 go_enter Tryz.func255,Tryz.ntmps255
 go_wp2_with fail
 refine(y.o _ (Below.jE _ _ _) (cH _ _ _).1 (cH _ _ _).2).mono ?_;rintro e j ⟨b,rfl,f⟩;have g:=hI f;clear f;go_wp2
 go_end0
 exact⟨⟨_,rfl⟩,g.o⟩
theorem ET(a n:Int)(k:Value)(w:World)(len cap:Nat)(b:Option Addr)(c:k=.slice b len cap):Calls Tryz.prog 229 #[.agg #[.int .i64 a,.int .i64 n,k]] w λe w'=>
 e=.returned (.func (.func 255) #[] #[.pointer (some ⟨w.heap.size,0,none⟩)])/\w'=w.alloc (.cells #[.int .i64 a,.int .i64 n,k] 54):=by
 subst c;have d:∀(fn:Fn) (first cap:Array Value) (w:World),(Instr.makeFunc fn first cap).run Tryz.prog w=.ok (.func fn first cap) w:=λ_ _ _ _=>rfl
 go_enter Tryz.func229,Tryz.ntmps229
 go_wp2;go_ret;exact⟨rfl,rfl⟩
def aaA{X:Type}(L:Nat)(I:List X->World->Prop)(a:Code->List X->World->Prop)(xs:List X)(W:World):Exit->Act->World->Prop
 | .normal,_,W'=>cq L W W'/\I xs W'
 | .ret,_,W'=>cq L W W'/\a .ret xs W'
 | .exit id,_,W'=>cq L W W'/\a (.exit id) xs W'
 |_,_,_=>False
theorem Lv{X:Type}{g:Operand}{p j:Tmp}{assign body:Code}{Q:Exit->Act->World->Prop}{a:Act}{w:World}(f1:FuncId)(caps:Array Value)(s:Value->Value->X->Prop)(all:List X)
 (y:a.eval g=.func (.func f1) #[] caps) (z:∀args w,(callFunc f1 args).run Tryz.prog w=.ok (.enter f1 args) w)
 (I:List X->World->Prop) (f:Code->List X->World->Prop)
 (hI:∀pre W W',I pre W->Below W.heap.size W W'->I pre W') (hI2:∀pre W W',I pre W->fM (w.heap.size+1) W W'->I pre W') (N6:∀c pre W W',f c pre W->fM (w.heap.size+1) W W'->f c pre W')
 (A:I [] w)
 (B:∀(J u:List X->World->Prop),(∀pre W W',J pre W->Below W.heap.size W W'->J pre W')->(∀pre W,J pre W->I pre W)->(∀pre x,(∀W,I pre W->I (pre++[x]) W)->∀W,J pre W->J (pre++[x]) W)->
  (∀pre t post v v' W,pre++t::post=all->J pre W->s v v' t->YieldAt Fence.wide 0 Tryz.prog (w.heap.size+1) #[v,v'] W λe W'=>(e=.returned (.bool true)/\J (pre++[t]) W'/\cq w.heap.size W W')\/(e=.returned (.bool false)/\u (pre++[t]) W'))->
  ∀W,J [] W->w.heap.size<=W.heap.size->Calls Tryz.prog f1 (#[.func (.yield (w.heap.size+1)) #[] #[]]++caps) W λe W'=>(∃v,e=.returned v)/\(J all W'\/∃q,u q W'))
 (C:∀(pre:List X) (t:X) (post:List X) (v v':Value) (W:World),pre++t::post=all->I pre W->s v v' t->w.heap.size+1<W.heap.size->assign.wpIn (Fence.wide.inRound (w.heap.size+1)) (n-1-1) Tryz.prog
  (Exit.then (λG W'=>Below W.heap.size W W'/\∀W2,fM (w.heap.size+1) W' W2->body.wpIn (Fence.wide.inRound (w.heap.size+1)) (n-1-1) Tryz.prog (aaA w.heap.size I f (pre++[t]) W2) G W2) (λ_ _ _=>False))
  { tmps:=((#[p,j]:Array Tmp).zip #[v,v']).foldl (λt (p,v)=>t.setIfInBounds p v) a.tmps,defers:=[]} W)
 (xg:∀(D:Nat) (W:World),w.heap.size<=D->I all W->W.heap[D]? =some (.deferred (some []))->Q .normal { a with defers:={ target:=.collected D,args:= #[]}::a.defers} W)
 (V7:∀(D:Nat) (c:Code) (pre:List X) (W:World),w.heap.size<=D->f c pre W->W.heap[D]? =some (.deferred (some []))->c.wpIn Fence.wide n Tryz.prog Q { a with defers:={ target:=.collected D,args:= #[]}::a.defers} W):
 (Code.rangeFunc g #[p,j] assign body).wpIn Fence.wide n Tryz.prog Q a w:=by
 refine wpIn_rangeFunc ?_;intro fn E;obtain⟨rec,sU⟩:∃rec:LoopState->Option Code->Loop,rec=λst G=>{ state:=st,pending:=G,fn,tmps:=a.tmps,params:= #[p,j],assign,body,defers:=w.heap.size}:=⟨_,rfl⟩;obtain⟨d,i⟩:∃d,(w.alloc (.deferred (some []))).alloc (.loop (rec .ready none))=d:=⟨_,rfl⟩;have k:d.heap[w.heap.size+1]? =some (.loop (rec .ready none)):=by rw[<-i];exact(cH _ _ _).2
 have l:d.heap[w.heap.size]? =some (.deferred (some [])):=by rw[<-i];exact(cH _ _ _).1
 have r:I [] d:=by rw[<-i];exact hI _ _ _ A (Below.jE _ _ _)
 have K:d.heap.size=w.heap.size+2:=by rw[<-i];simp
 refine⟨w.heap.size+1,[{ target:=.collected w.heap.size,args:= #[]}],d,{ target:=.fn (.func f1) caps,args:= #[.func (.yield (w.heap.size+1)) #[] #[]]},d,f1,
  #[.func (.yield (w.heap.size+1)) #[] #[]]++caps,d,?_,?_,?_,?_,(λh=>by cases h),?_⟩
 ·rw[<-i,sU];exact run_enterLoop_outer _ _ _ _ _
 ·simp only[resolve,y];simp[go_sem]
 ·intro G _;trivial
 ·simp[invoke,go_sem,z]
 ·refine(callsIn_wide.2 (B
   (λpre W=>I pre W/\W.heap[w.heap.size+1]? =some (.loop (rec .ready none))/\W.heap[w.heap.size]? =some (.deferred (some [])))
   (λpre W=>∃c,f c pre W/\W.heap[w.heap.size+1]? =some (.loop (rec .done (some c)))/\W.heap[w.heap.size]? =some (.deferred (some [])))
   (λpre W W' ⟨G,b,o⟩ hb=>⟨hI _ _ _ G hb,cY hb b,cY hb o⟩)
   (λpre W h=>h.1) (λpre x G W h=>⟨G W h.1,h.2⟩) ?_ d ⟨r,k,l⟩ (by omega))).mono ?_
  ·rintro pre t post v v' W he ⟨hi,hl,hk⟩ H;have bO:w.heap.size+1<W.heap.size:=(gE hl).1;have hy:=run_yield (P:=Tryz.prog) (args:= #[v,v']) hl (by rw[sU];rfl);rw[sU]at hy;refine jo (F:=Fence.wide) (m:=n-1-1) rfl 0 ⟨fn,_,assign,body,hy,roundIn_of_wpIn E ?_⟩;refine wpIn_mono (C pre t post v v' W he hi H bO) ?_;exact amq
  ·exact amY
attribute [local go_sem] Oper.semAt_some m7 wm
def okD(s:Sg)(x:Nd×Int):Bool:=decide (x.2<=12)&&cS s x.1.a x.1.n x.1.k.len
theorem Wb(s:Sg):∀(F:Fo) (d:Int),(q7 d F).all (okD s)=(decide (F=.nil\/d+F.height<=13)&&cK s F)
 | .nil,d=>rfl
 | .cons a n k r,d=>by
  unfold q7;rw[List.all_cons,List.all_append,Wb s k (d+1),Wb s r d];show(decide (d<=12)&&cS s a n k.len&&(decide (k=.nil\/d+1+k.height<=13)&&cK s k&&(decide (r=.nil\/d+r.height<=13)&&cK s r)))=(_&&(cS s a n k.len&&cK s k&&cK s r));have b:∀F:Fo,F=.nil↔F.height=0:=λF=>by cases F<;>simp[Fo.height]<;>omega
  have e:decide ((Fo.cons a n k r)=.nil\/d+(((Fo.cons a n k r).height:Nat):Int)<=13)=(decide (d<=12)&&decide (k=.nil\/d+1+k.height<=13)&&decide (r=.nil\/d+r.height<=13)):=by
   rw[aP];simp only[b,ak,decide_eq_true_eq];show(max (1+k.height) r.height=0\/d+((max (1+k.height) r.height:Nat):Int)<=13)↔_;omega
  rw[e];cases decide (d<=12)<;>cases cS s a n k.len<;>cases decide (k=.nil\/d+1+k.height<=13)<;>cases cK s k<;>cases decide (r=.nil\/d+r.height<=13)<;>rfl
theorem Lw(t:Nd)(d:Int):(lY d t).length=t.size:=by rw[<-EG,<-Lu d t,aW]
theorem rS(s:Sg)(t:Nd):dq s t=(decide (t.size<=40)&&(lY 1 t).all (okD s)):=by
 unfold dq lY iT;rw[List.all_cons,Wb];show _=(_&&(decide ((1:Int)<=12)&&cS s t.a t.n t.k.len&&_));have a:t.k=.nil↔t.k.height=0:=by cases t.k<;>simp[Fo.height]<;>omega
 have e:decide (t.size<=40/\t.height<=12)=(decide (t.size<=40)&&decide (t.k=.nil\/(1:Int)+1+t.k.height<=13)):=by
  rw[aP];simp only[ak,decide_eq_true_eq,a];show(_/\1+t.k.height<=12)↔_;omega
 rw[e];cases decide (t.size<=40)<;>cases cS s t.a t.n t.k.len<;>cases decide (t.k=.nil\/(1:Int)+1+t.k.height<=13)<;>cases cK s t.k<;>rfl
theorem Of{s:Sg}{a n:Int}{len:Nat}(h:fX a 1 15=false):cS s a n len=false:=by
 have h:¬(1<=a/\a<=15):=by unfold fX at h;simpa using h
 unfold cS Ja;rw[ah (by omega),ah (by omega),ah (by omega),ah (by omega),ah (by omega),ah (by omega)];have:(a==6||a==7||a==9||a==10||a==11||a==12||a==13||a==14||a==15)=false:=by
  simp only[Bool.or_eq_false_iff,beq_eq_false_iff_ne];omega
 rw[this];rfl
theorem Sl{a:Nat}(d:1<=a)(e:a<=15):∃f,(eW 16)[a]? =some (.func (.func f) #[] #[])/\(∀args w,(callFunc f args).run Tryz.prog w=.ok (.enter f args) w)/\
 ∀(s:Sg) (n:Int) (F:Fo) (sv kv:Value) (w:World) (B:Nat),ku w B sv s->dr w B kv F->B<=w.heap.size->aH Tryz.prog f #[sv,.agg #[.int .i64 a,.int .i64 n,kv]] w (.bool (cS s a n F.len)):=by
 rcases(by omega:a=1\/a=2\/a=3\/a=4\/a=5\/a=8\/a=6\/a=7\/a=9\/a=10\/a=11\/a=12\/a=13\/a=14\/a=15)with rfl|rfl|rfl|rfl|rfl|rfl|rfl|rfl|rfl|rfl|rfl|rfl|rfl|rfl|rfl
 ·exact⟨_,rfl,enters_of Tryz.func279 (by kernel_rfl) rfl,Gf⟩
 ·exact⟨_,rfl,enters_of Tryz.func280 (by kernel_rfl) rfl,Jl⟩
 ·exact⟨_,rfl,enters_of Tryz.func281 (by kernel_rfl) rfl,VH⟩
 ·exact⟨_,rfl,enters_of Tryz.func282 (by kernel_rfl) rfl,VI⟩
 ·exact⟨_,rfl,enters_of Tryz.func283 (by kernel_rfl) rfl,R8⟩
 ·exact⟨_,rfl,enters_of Tryz.func284 (by kernel_rfl) rfl,VG⟩
 all_goals exact⟨_,rfl,enters_of Tryz.func285 (by kernel_rfl) rfl,λs n F sv kv w B b c hB=>R7 s _ n F sv kv w B b c hB⟩
theorem Lx(s:Sg)(t:Nd)(sv v:Value)(w:World)(B:Nat)(E:ku w B sv s)(N:cV w B v t)(hB:B<=w.heap.size)(Je:t.size<=1000000):
 aH Tryz.prog 235 #[sv,v] w (.bool (dq s t)):=by
 have HS:Hd (ku w w.heap.size sv s):=hI (E.mono hB);have HV:=hI (N.mono hB);obtain⟨cv,fv,rfl,hc,I⟩:=E;obtain⟨U,cc,rfl⟩:=hc.slice;obtain⟨X,Y,rfl⟩:=I.slice;obtain⟨kv,rfl,k⟩:=N;have fK:=k.small;obtain⟨ka,kc,rfl⟩:=k.slice;clear k hc I;unfold aH;refine callsIn_wide.1 (callsIn_of_wp_marks (n:=0) Tryz.func235 rfl trivial (wpIn_wide.2 ?_) rfl);simp only[Tryz.ntmps235,List.size_toArray,aD,List.length_nil,Nat.reduceAdd,Nat.reduceSub,Array.replicate_succ,Array.replicate_zero,List.push_toArray,List.append_toArray,bL,bJ]
 go_wp2_with fail
 refine(Si _).mono ?_;rintro e f ⟨rfl,J⟩;have g:=jf w (.cells #[.slice U s.cons.length cc,.slice X s.bj.length Y] 39) (.cells #[.int .i64 t.a,.int .i64 t.n,.slice ka t.k.len kc] 54) (.cells #[.bool false] 4);have C:=Below.F0 w (.cells #[.slice U s.cons.length cc,.slice X s.bj.length Y] 39) (.cells #[.int .i64 t.a,.int .i64 t.n,.slice ka t.k.len kc] 54) (.cells #[.bool false] 4);have F:=cY J g.1;have A:=cY J g.2.1;have K:=cY J g.2.2;have M:=ag C J lR;have j:w.heap.size+3<=f.heap.size:=by have:=J.size;simp at this;omega
 have x0:=cZ A;have x1:=eY A;have x2:=fu A;have zx:=af x0;have zx2:w.heap.size<f.heap.size:=by omega
 clear g C J;obtain⟨m,G⟩:=xE (eW 16);unfold eW Dk;simp only[Nat.reduceLT,if_true]
 go_wp2_with (go_at_call 229;refine(ET _ _ _ _ _ _ _ rfl).mono ?_;rintro e w' ⟨rfl,rfl⟩)
 rw[show(#[.nilFunc,.func (.func 279) #[] #[],.func (.func 280) #[] #[],.func (.func 281) #[] #[],.func (.func 282) #[] #[],.func (.func 283) #[] #[],.func (.func 285) #[] #[],.func (.func 285) #[] #[],.func (.func 284) #[] #[],.func (.func 285) #[] #[],.func (.func 285) #[] #[],.func (.func 285) #[] #[],.func (.func 285) #[] #[],.func (.func 285) #[] #[],.func (.func 285) #[] #[],.func (.func 285) #[] #[]]:Array Value)=m from G.symm];obtain⟨i,g⟩:=xE (((f.alloc (.cells m 272)).alloc (.cells #[.int .i64 0] 3)).alloc (.cells #[.int .i64 t.a,.int .i64 t.n,.slice ka t.k.len kc] 54));have k:=jf f (.cells m 272) (.cells #[.int .i64 0] 3) (.cells #[.int .i64 t.a,.int .i64 t.n,.slice ka t.k.len kc] 54);have J:=Below.F0 f (.cells m 272) (.cells #[.int .i64 0] 3) (.cells #[.int .i64 t.a,.int .i64 t.n,.slice ka t.k.len kc] 54);have C:i.heap.size=f.heap.size+3:=by rw[g];simp
 rw[<-g]at k J |-;obtain⟨J7,lX,HT,kI,oy,O,eO,iV,Z⟩:=h_9 (cY J F) (cY J K) k.1 k.2.1 k.2.2 (ag M J lR) C j G;have HX:Hd (cV i w.heap.size (.agg #[.int .i64 t.a,.int .i64 t.n,.slice ka t.k.len kc]) t):=hI (HV.o.below O.o lR);have l:∀(pre:List (Nd×Int)) W,(Fix (λb=>b=f.heap.size+1) i W/\W.heap[f.heap.size+1]? =some (.cells #[.int .i64 ((pre.length:Nat):Int)] 3 (0,0))/\pre.length<=40/\pre.all (okD s)=true)->Below w.heap.size i W:=λpre W h=>h.1.toBelow (by have:=eO.o;omega) λb e=>by have:=iV.o;omega
 have Sb:=hI l;clear k J C g l j M F A K x0 x1 x2 zx G;refine wpIn_wide.1 (Lv (n:=0) 255 #[.pointer (some ⟨f.heap.size+1+1,0,none⟩)] (λv v' (x:Nd×Int)=>cV i w.heap.size v x.1/\v'=.int .i64 x.2) (lY 1 t) rfl (enters_of Tryz.func255 (by kernel_rfl) rfl)
  (λpre W=>Fix (λb=>b=f.heap.size+1) i W/\W.heap[f.heap.size+1]? =some (.cells #[.int .i64 ((pre.length:Nat):Int)] 3 (0,0))/\pre.length<=40/\pre.all (okD s)=true)
  (λc pre W=>c=.ret/\W.heap[w.heap.size+2]? =some (.cells #[.bool false] 4 (0,0))/\Below w.heap.size i W/\dq s t=false)
  (λpre W W' h hb=>⟨h.1.below hb,cY hb h.2.1,h.2.2⟩)
  (λpre W W' h E=>⟨h.1.same E (by omega),(E.2.2.2.2 _ (by have:=eO.o;omega)).trans h.2.1,h.2.2⟩)
  (λc pre W W' h E=>⟨h.1,(E.2.2.2.2 _ (by have:=eO.o;have:=iV.o;omega)).trans h.2.1,sV h.2.2.1 E (by have:=eO.o;have:=iV.o;omega),h.2.2.2⟩)
  ⟨Fix.refl _ _,kI.o,by simp,rfl⟩
  (λJ C A G _ F W g K=>ac1 _ _ w.heap.size i (by have:=eO.o;have:=iV.o;omega) (by have:=eO.o;have:=iV.o;omega) (lY 1 t) J C A (λpre W h=>Sb.o pre W (G pre W h)) (λpre x d post v W he M j=>F pre (x,d) post v _ W he M ⟨j,rfl⟩) t ka t.k.len kc (f.heap.size+2) W HX.o rfl Je (((G _ _ g).1.block _ (by have:=eO.o;omega) (by omega)).trans oy.o) g K)
  ?round ?done ?stop)
 case round=>
  intro pre x post v v' W he hi N bO;obtain⟨⟨q,r,u⟩,P⟩:=x;obtain⟨⟨xv,rfl,C⟩,rfl⟩:=N;dsimp only at C |-;obtain⟨Q,R,rfl⟩:=C.slice
  gi_wp2
  refine⟨Below.cA _ _,λy J=> ?_⟩;obtain⟨F,S,hle,L⟩:=hi;have M:=Below.cA W (.cells #[.int .i64 q,.int .i64 r,.slice Q u.len R] 54);have T:=(F.below M).same J (by omega);have K:y.heap[f.heap.size+1]? =some (.cells #[.int .i64 ((pre.length:Nat):Int)] 3 (0,0)):=(J.2.2.2.2 _ (by have:=eO.o;omega)).trans (cY M S);have y5:y.heap[W.heap.size]? =some (.cells #[.int .i64 q,.int .i64 r,.slice Q u.len R] 54 (0,0)):=(J.2.2.2.2 _ (by have:=F.size;omega)).trans (a_ _ _);have gP:y.heap.size=W.heap.size+1:=by rw[J.2.2.2.1];simp
  have c3:=cZ K;have f3:y.frozen? ⟨f.heap.size+1,0,none⟩=false:=by simp[World.frozen?,K]
  have z3:=af c3;have Qv:pre.length+1<=(lY 1 t).length:=by rw[<-he];simp
  have Zl:Fix (λb=>b=f.heap.size+1) i (y.setCell ⟨f.heap.size+1,0,none⟩ (.int .i64 ((pre.length:Int)+1))):=T.setCell (p:=⟨f.heap.size+1,0,none⟩) rfl _;have G:=cz (o:=0) (v:=.int .i64 ((pre.length:Int)+1)) K;have g:(y.setCell ⟨f.heap.size+1,0,none⟩ (.int .i64 ((pre.length:Int)+1))).heap[W.heap.size]? =some (.cells #[.int .i64 q,.int .i64 r,.slice Q u.len R] 54 (0,0)):=(au _ _ _ _ (by have:=F.size;have:=eO.o;show W.heap.size≠f.heap.size+1;omega)).trans y5;have A:cq i.heap.size y (y.setCell ⟨f.heap.size+1,0,none⟩ (.int .i64 ((pre.length:Int)+1))):=⟨by simp[World.setCell],λb o hb ho=>(au _ _ _ _ (by have:=eO.o;show b≠f.heap.size+1;omega)).trans ho⟩;have mT:pre.length<41:=by omega
  obtain⟨l,H,z,j,HE,N_,HXK,ahv⟩:=h_8 Zl G g A he L C Qv;clear Zl G g A he L C Qv F S M T K y5 J hle
  gi_wp2_with fail
  obtain⟨V,g⟩:=xE (y.setCell ⟨f.heap.size+1,0,none⟩ (.int .i64 ((pre.length:Int)+1)));rw[<-g]at l H z j |-;clear c3 f3 z3 g gP;have J:=l.o.toBelow (n:=w.heap.size) (by have:=eO.o;have:=iV.o;omega) (λb e=>by have:=iV.o;omega);have v0:=(l.o.block _ (show w.heap.size<i.heap.size by have:=eO.o;have:=iV.o;omega) (by have:=iV.o;omega)).trans J7.o;have v2:=(l.o.block _ (show w.heap.size+2<i.heap.size by have:=eO.o;have:=iV.o;omega) (by have:=iV.o;omega)).trans lX.o;have G:=(l.o.block _ (show f.heap.size<i.heap.size by have:=eO.o;omega) (by omega)).trans HT.o;have c0:=cZ v0;have c1:=eY v0;have r0:=cZ v2;have k0:=cZ H.o;have x0:=cZ z.o;have x1:=eY z.o;have x2:=fu z.o;have z0:=af c0;have zr:=af r0;have zk:=af k0;have zx:=af x0;have zT:f.heap.size<V.heap.size:=(gE G).1;obtain⟨M,S,HVT⟩:=h_3 J v2 G;clear J v0 v2 G;by_cases k:pre.length<40
  ·have nX:decide ((40:Int)<(pre.length:Int)+1)=false:=by simp;omega
   by_cases hd:P<=12
   ·have Zm:decide (12<P)=false:=by simp;omega
    cases A:fX q 1 15 with
    |true=>
     have T:Hd (∀W,aH Tryz.prog 194 #[.int .i64 q,.int .i64 1,.int .i64 15] W (.bool true)):=hI λW=>by rw[<-A];exact oR _ _ _ _
     obtain⟨an,han⟩:∃an:Nat,q=(an:Int):=⟨q.toNat,by unfold fX at A;simp at A;omega⟩;subst han;have Wc:1<=an/\an<=15:=by unfold fX at A;simp at A;omega
     obtain⟨tf,g,etf,J⟩:=Sl Wc.1 Wc.2;have cT:V.cell? ⟨f.heap.size,an,none⟩=some (.func (.func tf) #[] #[]):=by rw[cell_of_row _ _ _ _ _ _ HVT.o,Z.o];exact g
     have alQ:(an:Int)<16:=by omega
     have C:Hd (∀d os,aH Tryz.prog tf #[.agg #[.slice U s.cons.length cc,.slice X s.bj.length Y],.agg #[.int .i64 (an:Nat),.int .i64 r,.slice Q u.len R]] (Go.Sort.grow (redrawn V d) os) (.bool (cS s an r u.len))):=hI λd os=>
      J s r u _ _ _ w.heap.size ((HS.o.below (O.o.trans M.o) lR).below (below_regrown V d os) (by omega)) ((HXK.o.below M.o lR).below (below_regrown V d os) (by omega)) (ai (by omega) (below_regrown V d os).size)
     clear J g A;cases K:cS s an r u.len with
     |true=>
      rw[K]at C;refine kq (by kernel_rfl) (by kernel_rfl) (by rintro⟨a,w,h⟩;exact h) ?_
      repeat go_big_quiet_step ((first|(with_reducible exact aH.quiet (T.o _))|(with_reducible exact aH.quiet (C.o _ _))))
      refine wpQuiet_nil ?_;intro F g;obtain⟨xD,EI,G,HSO⟩:=h_4 (j.o.below g) (l.o.below g) (cY g H.o) K;clear g K
      gi_wp2
      exact⟨xD.o,EI.o,by rw[G.o,az];rfl,by rw[az,aY];omega,by rw[List.all_append,N_.o];simp[okD,HSO.o,hd]⟩
     |false=>
      rw[K]at C;have HSO:=hI K;clear K;refine kq (by kernel_rfl) (by kernel_rfl) (by rintro⟨a,w,h⟩;exact h) ?_
      repeat go_big_quiet_step ((first|(with_reducible exact aH.quiet (T.o _))|(with_reducible exact aH.quiet (C.o _ _))))
      refine wpQuiet_nil ?_;intro F g;have J:=cY g S.o;have c4:=cZ J;have f4:F.frozen? ⟨w.heap.size+1+1,0,none⟩=false:=by simp[World.frozen?,J]
      have z4:=af c4;obtain⟨xD,EI,H2⟩:=h_3 (j.o.below g) (l.o.below g) J;clear g J
      gi_wp2
      exact amW
    |false=>
     have T:Hd (∀W,aH Tryz.prog 194 #[.int .i64 q,.int .i64 1,.int .i64 15] W (.bool false)):=hI λW=>by rw[<-A];exact oR _ _ _ _
     have HSO:=hI (Of (s:=s) (n:=r) (len:=u.len) A);clear A;refine kq (by kernel_rfl) (by kernel_rfl) (by rintro⟨a,w,h⟩;exact h) ?_
     repeat go_big_quiet_step ((with_reducible exact aH.quiet (T.o _)))
     refine wpQuiet_nil ?_;intro F g;have J:=cY g S.o;have c4:=cZ J;have f4:F.frozen? ⟨w.heap.size+1+1,0,none⟩=false:=by simp[World.frozen?,J]
     have z4:=af c4;obtain⟨xD,EI,H2⟩:=h_3 (j.o.below g) (l.o.below g) J;clear g J
     gi_wp2
     exact amW
   ·have Zm:decide (12<P)=true:=by simp;omega
    have G:=hI hd;clear hd;refine kq (by kernel_rfl) (by kernel_rfl) (by rintro⟨a,w,h⟩;exact h) ?_
    repeat go_big_quiet_step (fail)
    refine wpQuiet_nil ?_;intro F g;have J:=cY g S.o;have c4:=cZ J;have f4:F.frozen? ⟨w.heap.size+1+1,0,none⟩=false:=by simp[World.frozen?,J]
    have z4:=af c4;obtain⟨xD,EI,H2⟩:=h_3 (j.o.below g) (l.o.below g) J;clear g J
    gi_wp2
    refine⟨⟨by simpa [World.setCell] using xD.o.1,λb o hb ho=>(au _ _ _ _ (by have:=eO.o;have:=iV.o;show b≠w.heap.size+1+1;omega)).trans (xD.o.2 b o hb ho)⟩,rfl,by rw[cz H2.o];rfl,(EI.o.toBelow (n:=w.heap.size) (by have:=eO.o;have:=iV.o;omega) (λb e=>by have:=iV.o;omega)).setCell (p:=⟨w.heap.size+1+1,0,none⟩) (by show w.heap.size<=w.heap.size+1+1;omega) _,?_⟩;rw[rS,<-HE.o,List.all_append,List.all_cons,show okD s (⟨q,r,u⟩,P)=false from by unfold okD;dsimp only;rw[aB (by have:=G.o;omega)];rfl];simp
  ·have nX:decide ((40:Int)<(pre.length:Int)+1)=true:=by simp;omega
   refine kq (by kernel_rfl) (by kernel_rfl) (by rintro⟨a,w,h⟩;exact h) ?_
   repeat go_big_quiet_step (fail)
   refine wpQuiet_nil ?_;intro F g;have J:=cY g S.o;have c4:=cZ J;have f4:F.frozen? ⟨w.heap.size+1+1,0,none⟩=false:=by simp[World.frozen?,J]
   have z4:=af c4;obtain⟨xD,EI,H2⟩:=h_3 (j.o.below g) (l.o.below g) J;clear g J
   gi_wp2
   refine⟨⟨by simpa [World.setCell] using xD.o.1,λb o hb ho=>(au _ _ _ _ (by have:=eO.o;have:=iV.o;show b≠w.heap.size+1+1;omega)).trans (xD.o.2 b o hb ho)⟩,rfl,by rw[cz H2.o];rfl,(EI.o.toBelow (n:=w.heap.size) (by have:=eO.o;have:=iV.o;omega) (λb e=>by have:=iV.o;omega)).setCell (p:=⟨w.heap.size+1+1,0,none⟩) (by show w.heap.size<=w.heap.size+1+1;omega) _,?_⟩;have G:=ahv.o;rw[Lw]at G;rw[rS,aB (by omega)];rfl
 case done=>
  rintro D W A ⟨I,_,hle,L⟩ G;have J:=(I.block _ (show w.heap.size+2<i.heap.size by have:=eO.o;have:=iV.o;omega) (by have:=iV.o;omega)).trans lX.o;have ce:=cZ J;have K:W.frozen? ⟨w.heap.size+1+1,0,none⟩=false:=by simp[World.frozen?,J]
  have M:=af ce;obtain⟨C,g,N_,F⟩:=h_4 I G L hle;clear I hle L G J;go_wp2;refine iZ (v:=.bool true) D ((au _ _ _ _ (by show D≠w.heap.size+1+1;have:=eO.o;have:=iV.o;omega)).trans g.o) (di rfl rfl (dz Tryz.underlying4 rfl ?_)) rfl ⟨?_,?_⟩
  ·rw[gZ (by have:=eO.o;have:=iV.o;omega)];exact World.cell?_setCell_same _ _ _ ce
  ·rw[rS,N_.o,<-Lw t 1,aI F.o];rfl
  ·exact dI (((O.o).trans (C.o.toBelow (n:=w.heap.size) (by have:=eO.o;have:=iV.o;omega) (λb e=>by have:=iV.o;omega))).setCell (p:=⟨w.heap.size+1+1,0,none⟩) (by show w.heap.size<=w.heap.size+1+1;omega) _) (by have:=eO.o;have:=iV.o;omega) _
 case stop=>
  rintro D c pre W A ⟨rfl,J,hb,C⟩ G;have ce:=cZ J;obtain⟨F,g,K⟩:=h_3 hb G C;clear hb G C J
  gi_wp2
  refine iZ (v:=.bool false) D g.o (di rfl rfl (dz Tryz.underlying4 rfl ?_)) rfl ⟨?_,?_⟩
  ·rw[gZ (by have:=eO.o;have:=iV.o;omega)];exact ce
  ·rw[K.o]
  ·exact dI (O.o.trans F.o) (by have:=eO.o;have:=iV.o;omega) _
end
section
open Go Go.RowKit
attribute [local go_sem] aT cW df
def sX(g:Gr):Nat->Nat->Nat
 |0,_=>0
 |k+1,n=>match(aX g n).to with|none=>0|some m=>1+sX g k m
theorem EU:∀(k n:Nat),(aX g (fD g k n)).to=none->sX g (k+1) n=sX g k n
 |0,n,h=>by
  have h:(aX g n).to=none:=h;unfold sX;rw[h]
 |k+1,n,h=>by
  unfold fD at h;unfold sX;cases e:(aX g n).to with
  |none=>rfl
  |some m=>
   rw[e]at h;have:=EU k m h;simp only;rw[<-this]
theorem Wd(hw:Wf g){m:Nat}(b:n<g.length)(h:(aX g n).to=some m):sX g (fm g) m<sX g (fm g) n:=by
 have he:=hw.ends n b;unfold find at he;cases a:fm g with
 |zero=>rw[a]at he;unfold fD at he;rw[h]at he;cases he
 |succ L=>
  rw[a]at he;unfold fD at he;rw[h]at he;simp only at he;rw[EU L m he]
  conv=>rhs;unfold sX
  rw[h];simp only;omega
section
variable {K:GK} {w w0 w1:World} {base x:Nat} {g:Gr} {r:Option Nat} {v v':Value} {ps:List Value}
theorem ed.appended(hg:ed K w base x g r v ps)(k:K.T≠3)(l:K.V≠3)(h3:K.T≠K.V){z s n:Int}{c:Value}{parts:List Nat}(a:Below w.heap.size w w0)
 (m:w1.ownsRow base K.V 4 v' (g.length+1) (jk K g ps++[.int .i64 z,.int .i64 n,c,.int .i64 (-1)])) (b:w0.grownBy w1 v.ownBlock) (p:v'.ownBlock=v.ownBlock\/v'.ownBlock=some w0.heap.size)
 (t:z=K.sz s) (hp:dw w c parts):
 some x≠v.ownBlock/\w1.frozen? ⟨x,0,none⟩=false/\∃r' v1,ed K (w1.setCell ⟨x,0,none⟩ v') base x (g++[⟨s,n,parts,none⟩]) r' v1 (ps++[c])/\mR x r r' w (w1.setCell ⟨x,0,none⟩ v'):=by
 have eC:some x≠v.ownBlock:=λe=>by
  obtain⟨cur,hc,_⟩:=hg.ey (q:=x) (hg.row.symm.trans e.symm);exact aog
 have G:w1.heap[x]? =some (.cells #[v] K.T (0,0)):=(b.block x (aC hg.lt.1 a.size) eC).trans ((a.block x hg.lt.1).trans hg.fW);have u:(w1.setCell ⟨x,0,none⟩ v').heap[x]? =some (.cells #[v'] K.T (0,0)):=by rw[cz G];rfl
 have f:mR x r v'.ownBlock w (w1.setCell ⟨x,0,none⟩ v'):=by
  refine⟨b.os.trans a.os,b.tape.trans a.tape,b.output.trans a.output,by have:=a.size;have:=b.size;simp[World.setCell];omega,λq o e j y=> ?_,?_⟩
  ·have d:=(gE e).1;refine(au _ _ _ _ (λA=>j A)).trans ((b.block q (aC d a.size) (by rw[hg.row];exact y)).trans ((a.block q d).trans e))
  ·rcases p with e|e
   ·exact .inl (e.trans hg.row)
   ·exact .inr ⟨_,e,a.size⟩
 have j:=f.qU hg k l;have d:ps.length=g.length:=hg.len;refine⟨eC,by simp[World.frozen?,G],v'.ownBlock,v',⟨u,rfl,?_,by simp[d],λi hi=> ?_,hg.base⟩,f⟩
 ·rw[dS,BQ d,show j5 K ⟨s,n,parts,none⟩ c=[.int .i64 z,.int .i64 n,c,.int .i64 (-1)]by unfold j5;rw[t];rfl];exact mi m G h3
 ·rw[dS]at hi;by_cases e:i<g.length
  ·rw[dX g _ e,bM (by omega)];exact(hg.parts i e).keep j
  ·obtain rfl:i=g.length:=by omega
   rw[iO,bo (by omega),d,Nat.sub_self];exact hp.keep j
end
theorem Tryz.ad4:(Tryz.prog.info? 193).map (λi=>(i.zero,i.size,i.bytes))=some (some (.agg #[.int .i64 0,.int .i64 0,.slice none 0 0,.int .i64 0]),4,48):=by kernel_rfl
theorem ph{w:World}{base:Nat}{v:Value}{ps:List Value}(f:ed jU w base x g r v ps)(hw:Wf g)(k:n<g.length):
 Calls Tryz.prog 78 #[.pointer (some ⟨x,0,none⟩),.int .i64 (n:Nat)] w λe w'=>e=.returned (.int .i64 (find g n:Nat))/\w'=w:=by
 obtain⟨q,c,s⟩:=h_3 f hw k;clear f hw k
 go_enter Tryz.func78,Tryz.ntmps78
 go_wp2
 go_loop [1] (λi=>∃j:Nat,i=.int .i64 (j:Nat)/\j<g.length/\find g j=find g n) (λi=>sX g (fm g) (intOf i).toNat)
 case atStart=>exact⟨n,rfl,s.o,rfl⟩
 case round=>
  obtain⟨j,rfl,b,d⟩:=hrel;obtain⟨rb,cap,p,u,l,_,y,_,t,cx,_,_,_,_,c3,_,_,_⟩:=q.o.cells b;rw[l]at cx;have z:(j:Int)<(g.length:Int):=by omega
  have A:=af cx;unfold maxLen at t;have o:=hI d;clear d l;cases a:(aX g j).to with
  |none=>
   rw[a,show NH none= -1 from rfl]at c3;have d:=hI (AU a);clear a;go_wp2;go_ret;exact⟨by show Ending.returned (.int .i64 ((j:Nat):Int))=_;rw[<-o.o,d.o],rfl⟩
  |some m=>
   rw[a,show NH (some m)=((m:Nat):Int)from rfl]at c3;have l:(0:Int)<=(m:Int):=by omega
   have d:=hI a;clear a;go_wp2
   go_round
   case rel=>exact⟨m,rfl,c.o.to _ b _ d.o,by rw[<-o.o,ZG c.o b d.o]⟩
   case measure=>simp only[intOf,bw];exact Wd c.o b d.o
theorem Dm{w:World}{base:Nat}{v:Value}{ps:List Value}(a:ed jU w base x g r v ps)(o:base<=w.heap.size)(c:g.length<=1000000000)(s z n:Int)(q:z=jU.sz s)(d:Value)(parts:List Nat)(hp:dw w d parts):
 Calls Tryz.prog 112 #[.pointer (some ⟨x,0,none⟩),.int .i64 z,.int .i64 n,d] w λe w'=>e=.returned (.int .i64 (g.length:Nat))/\∃r' v',ed jU w' base x (g++[⟨s,n,parts,none⟩]) r' v' (ps++[d])/\mR x r r' w w':=by
 obtain⟨t,y,rfl⟩:=hp.slice;obtain⟨C,D,rfl⟩:=cr a.own;have xR:=cZ a.fW;have E:w.frozen? ⟨x,0,none⟩=false:=by simp[World.frozen?,a.fW]
 have F:=a.lt.1;obtain⟨i0,hi,H,I,J⟩:=info_parts Tryz.ad4;obtain⟨A,K,L,f,M⟩:=h_5 a hp q c o;clear a hp q c o
 go_enter Tryz.func112,Tryz.ntmps112
 go_wp2_with (at_builtin;refine wpList_append_own_at _ rfl _ _ 108 rfl base 193 i0 _ 4 48 Tryz.underlying108 hi H I J rfl (by decide) _ _ _ rfl (A.o.own.alloc _) ⟨w.heap.size,0,none⟩ 1 1 [.int .i64 z,.int .i64 n,.slice t parts.length y,.int .i64 (-1)] rfl rfl ?c1 ?c2 ?c3 ?c4 ?c5 ?_)
 case c1=>
  intro j u G;rw[Addr.add_lit,a8,cell_of_row _ _ _ _ _ _ (a_ _ _),aF];exact G
 case c2=>
  exact ang
 case c3=>have:=f.o;unfold maxLen;omega
 case c4=>have:=f.o;omega
 case c5=>have:=M.o;simp;omega
 intro v' w1 i k _ B;obtain⟨N,O,rfl⟩:=cr i;have l:=Below.cA w (.cells #[.int .i64 z,.int .i64 n,.slice t parts.length y,.int .i64 (-1)] 193);have b:=A.o.appended (by decide) (by decide) (by decide) l i k (B.imp (λe=>e) λe=>e.trans (by simp)) (s:=s) (n:=n) (by rw[L.o]) K.o;obtain⟨R,G⟩:=xE (w1.setCell ⟨x,0,none⟩ (.slice N (g.length+1) O));rw[<-G]at b;have m:w1.cell? ⟨x,0,none⟩=some (.slice C g.length D):=k.cell ((l.cell (p:=⟨x,0,none⟩) F).trans xR) b.1;have S:w1.frozen? ⟨x,0,none⟩=false:=b.2.1;have T:x<w1.heap.size:=af m;have P:=hI b.2.2;have Q:=hI G;clear b i k B l G xR E;have c:=f.o;go_wp2;go_ret;exact⟨rfl,by rw[<-Q.o];exact P.o⟩
theorem Bp{w:World}{base:Nat}{v:Value}{ps:List Value}(a:ed jU w base x g r v ps)(b:base<=w.heap.size)(c:g.length<=1000000000):
 Calls Tryz.prog 71 #[.pointer (some ⟨x,0,none⟩)] w λe w'=>e=.returned (.int .i64 (g.length:Nat))/\∃r' v',ed jU w' base x (g++[⟨0,0,[],none⟩]) r' v' (ps++[.slice none 0 0])/\mR x r r' w w':=by
 have f:=hI (Dm a b c 0 0 0 (by decide) _ [] (dw.nil w));clear a b c
 go_enter Tryz.func71,Tryz.ntmps71
 go_wp2_with fail
 refine f.o.mono ?_;rintro e w' ⟨rfl,d⟩;have i:=hI d;clear d;go_wp2;go_ret;exact⟨rfl,i.o⟩
def nN(Q:Exit->Act->World->Prop)(e:Exit)(a:Act)(w:World):Prop:=match e with
 | .normal=>Q .normal a w
 |_=>False
theorem Qy{α β:Type}{P:Program}{c:Code}{Q:Exit->Act->World->Prop}{a:Act}{w:World}(A:α->β->Act)(R:α->β->World->Prop)
 (h:Code.wp P c (nN λ_ b W'=>∃x y,b=A x y/\R x y W') a w) (d:∀x y W',R x y W'->Q .normal (A x y) W'):Code.wp P c Q a w:=
 Code.wp_mono (λe b w' h=>by
  cases e<;>first|exact h.elim|skip
  obtain⟨x,y,rfl,f⟩:=h;exact d x y w' f) h
def wV(s:Int):Prop:=s= -1\/s=0\/s=2\/s=3\/s=4
def Uc(g:Gr):Prop:=∀i,i<g.length->wV (aX g i).sort
theorem EV{s:Int}(h:wV s):(xm s==0)=(s==0):=by
 rcases h with rfl|rfl|rfl|rfl|rfl<;>decide
theorem We{s t:Int}(h:wV s)(h':wV t):(xm s != xm t)=(s != t):=by
 rcases h with rfl|rfl|rfl|rfl|rfl<;>rcases h' with rfl|rfl|rfl|rfl|rfl<;>decide
theorem Uc.link(h:Uc g)(a b:Nat):Uc (link g a b):=λi hi=>by
 rw[dP]at hi;rw[(lP g a b i).1];exact h i hi
theorem Uc.same{g':Gr}(h:Uc g)(b:g'.length=g.length)(a:∀i,(aX g' i).sort=(aX g i).sort):Uc g':=λi hi=>by
 rw[a];exact h i (by omega)
theorem Wg{l m:List Nat}{i:Nat}(h:i<l.length)(h':i<m.length):(l.zip m).drop i=(l[i]?.getD 0,m[i]?.getD 0)::(l.zip m).drop (i+1):=by
 rw[bI (by simp;omega)];simp[ae h,ae h']
def m9:Value:=.iface 191 (.agg #[])
def EqP(base x:Nat)(r:Option Nat)(ps:List Value)(w:World):Option Gr->Ending->World->Prop
 |some g',e,w'=>e=.returned (.tuple #[])/\∃r' v',ed jU w' base x g' r' v' ps/\mR x r r' w w'
 |none,e,w'=>e=.panicked [{ v:=m9,recovered:=false}]/\∃r',mR x r r' w w'
theorem Bq:∀(k:Nat) {w:World} {base x:Nat} {g:Gr} {r:Option Nat} {v:Value} {ps:List Value} {a b:Nat},ed jU w base x g r v ps->base<=w.heap.size->Wf g->Uc g->g.length-fm g<k->a<g.length->b<g.length->g.length<=1000000000->
 Calls Tryz.prog 76 #[.pointer (some ⟨x,0,none⟩),.int .i64 (a:Nat),.int .i64 (b:Nat)] w (EqP base x r ps w (DK k g a b))
 |0,_,_,_,_,_,_,_,_,_,_,_,_,_,h,_,_,_=>ay h (ax _)
 |k+1,w,base,x,g,r,v,ps,a,b,K,oG,hw,Dn,hk,ha,hb,hl=>by
  have Gg:=hI (ph K hw ha);have Kc:=hI (ph K hw hb);have A:=hw.il ha;have L:=hw.il hb;have O:=hI (hw.ends a ha);have J9:=hI (hw.ends b hb);unfold DK;generalize find g a=c at Gg A O |-;generalize find g b=d at Kc L J9 |-;obtain⟨rb,cap,p,pc,s,y,J,_,RF,cx,U,T,s1,s2,S,fz,sp,_⟩:=K.cells A;obtain⟨rb',oh,q,qc,Wh,Nb,_,_,_,_,_,t0,t1,t2,t3,_,z,_⟩:=K.cells L;rw[y]at Nb;cases Nb;rw[s]at Wh;cases Wh;rw[s]at cx;have haI:(c:Int)<(g.length:Int):=by omega
  have hbI:(d:Int)<(g.length:Int):=by omega
  have hx:=af cx;unfold maxLen at RF;obtain⟨t,HB,HW,B,HL,HK,FU,HTP,HR⟩:=h_9 K oG hw Dn hl hk sp z y;clear K s oG hw Dn hk sp z ha hb y;by_cases l:c=d
  ·subst l;rw[aq rfl]
   go_enter Tryz.func76,Tryz.ntmps76
   go_wp2_with (first|(go_at_call 78;(with_reducible refine(Gg.o).mono ?_);rintro e w' ⟨rfl,m⟩;rw[m];clear m w')|(go_at_call 78;(with_reducible refine(Kc.o).mono ?_);rintro e w' ⟨rfl,m⟩;rw[m];clear m w'))
   go_end0
   exact⟨rfl,_,_,t.o,mR.refl _ _ _⟩
  rw[ah l];have alR:((c:Int)==(d:Int))=false:=by rw[beq_eq_false_iff_ne];omega
  have HAB:=hI l;clear l;generalize u:(if dQ (aX g c)=true then some (link g c d)else _)=res;have f:=hI u;clear u
  go_enter Tryz.func76,Tryz.ntmps76
  go_wp2_with (first|(go_at_call 78;(with_reducible refine(Gg.o).mono ?_);rintro e w' ⟨rfl,m⟩;rw[m];clear m w')|(go_at_call 78;(with_reducible refine(Kc.o).mono ?_);rintro e w' ⟨rfl,m⟩;rw[m];clear m w'))
  apply Qy (R:=fun(ba bb:Nat) W'=>Below w.heap.size w W'/\ba≠bb/\w.heap.size<=ba/\w.heap.size<=bb/\W'.heap[ba]? =some (.cells #[.int .i64 (jU.sz (aX g c).sort),.int .i64 (aX g c).n,.slice p (aX g c).parts.length pc,.int .i64 (NH (aX g c).to)] 193 (0,0))/\
   W'.heap[bb]? =some (.cells #[.int .i64 (jU.sz (aX g d).sort),.int .i64 (aX g d).n,.slice q (aX g d).parts.length qc,.int .i64 (NH (aX g d).to)] 193 (0,0)))
  case h=>
   go_region_held3 (λW=>W.cell? ⟨x,0,none⟩=some (.slice (some ⟨rb,0,none⟩) g.length cap)/\W.cell? ⟨rb,c*4,none⟩=some (.int .i64 (jU.sz (aX g c).sort))/\W.cell? ⟨rb,c*4+1,none⟩=some (.int .i64 (aX g c).n)/\W.cell? ⟨rb,c*4+2,none⟩=some (.slice p (aX g c).parts.length pc)/\W.cell? ⟨rb,c*4+3,none⟩=some (.int .i64 (NH (aX g c).to))/\
    W.cell? ⟨rb,d*4,none⟩=some (.int .i64 (jU.sz (aX g d).sort))/\W.cell? ⟨rb,d*4+1,none⟩=some (.int .i64 (aX g d).n)/\W.cell? ⟨rb,d*4+2,none⟩=some (.slice q (aX g d).parts.length qc)/\W.cell? ⟨rb,d*4+3,none⟩=some (.int .i64 (NH (aX g d).to))) (go_keep) (fail)
   all_goals dsimp only[nN]
   all_goals first
    |(refine⟨w.heap.size,w.heap.size+1,?_,Below.ia (Below.jE _ _ _),by omega,by omega,by omega,(cH _ _ _).1,(cH _ _ _).2⟩;generalize w.heap.size+1=bb;generalize w.heap.size=ba;exact rfl)
    |(refine⟨w.heap.size+1,w.heap.size,?_,Below.ia (Below.jE _ _ _),by omega,by omega,by omega,(cH _ _ _).2,(cH _ _ _).1⟩;generalize w.heap.size+1=bb;generalize w.heap.size=ba;exact rfl)
  rintro ba bb W ⟨l,eC,hla,hlb,y,hB⟩;have F:=(l.cell (p:=⟨x,0,none⟩) hx).trans cx;have s:∀j,W.frozen? ⟨rb,j,none⟩=false:=λj=>(l.frozen (p:=⟨rb,j,none⟩) J).trans (fz j);have a0:=cZ y;have a1:=eY y;have a2:=fu y;have b0:=cZ hB;have b1:=eY hB;have b2:=fu hB;have z0:x<W.heap.size:=af F;have z1:ba<W.heap.size:=af a0;have z2:bb<W.heap.size:=af b0;have z3:rb<W.heap.size:=aC J l.size;have z:=B.o c A;have n:=B.o d L;have G:(jU.sz (aX g c).sort==0)=dQ (aX g c):=EV z;have q1:(jU.sz (aX g d).sort==0)=dQ (aX g d):=EV n;have C:(jU.sz (aX g c).sort != jU.sz (aX g d).sort)=((aX g c).sort != (aX g d).sort):=We z n;have H:=(l.cell (p:=⟨rb,c*4+3,none⟩) J).trans S;have I:=(l.cell (p:=⟨rb,d*4+3,none⟩) J).trans t3;have N:=s (c*4+3);have frb:=s (d*4+3);have E:=t.o.below l;obtain⟨o,D,M,HA,cR⟩:=h_5 (E.link (by decide) (by decide) (by decide) (a:=c) (b:=d) A HR.o) (E.link (by decide) (by decide) (by decide) (a:=d) (b:=c) L HR.o) (mR.cB x r l) y hB;clear T s1 s2 S t0 t1 t2 t3 U fz cx J E y hB l s z n;generalize P:jU.sz (aX g c).sort=sa at G C a0 HA;generalize Q:jU.sz (aX g d).sort=sb at q1 C b0 cR;clear P Q;have hcI:(cap:Int)<=9223372036854775807:=by omega
  have qz:(aX g c).parts.length<=140737488355328:=by obtain⟨_,_,_,_,_,h,_⟩:=FU.o;exact h
  cases l:dQ (aX g c)with
  |true=>
   obtain rfl:res=some (link g c d):=by rw[<-f.o,aq l]
   rw[l]at G;clear l q1 C f;go_wp2
   go_end0
   exact⟨rfl,r,_,o.o.1,M.o.trans o.o.2⟩
  |false=>
  have s:=f.o;rw[ah (by rw[l];decide)]at s;clear f;rw[l]at G;clear l;cases l:dQ (aX g d)with
  |true=>
   obtain rfl:res=some (link g d c):=by rw[<-s,aq l]
   rw[l]at q1;clear l C s;go_wp2
   go_end0
   exact⟨rfl,r,_,D.o.1,M.o.trans D.o.2⟩
  |false=>
  rw[ah (by rw[l];decide)]at s;rw[l]at q1;have f:=hI s;clear l s;by_cases y:(aX g c).sort=(aX g d).sort
  case neg=>
   obtain rfl:res=none:=by rw[<-f.o,aq (.inl y)]
   rw[gy y]at C;clear f y;go_wp2;exact⟨rfl,rfl,r,M.o⟩
  rw[jX y]at C;by_cases J:(aX g c).n=(aX g d).n
  case neg=>
   obtain rfl:res=none:=by rw[<-f.o,aq (.inr (.inl J))]
   have q3:=gy J;clear f y J;go_wp2;exact⟨rfl,rfl,r,M.o⟩
  have q3:=jX J;by_cases l:(aX g c).parts.length=(aX g d).parts.length
  case neg=>
   obtain rfl:res=none:=by rw[<-f.o,aq (.inr (.inr l))]
   have q4:(((aX g c).parts.length:Int) != ((aX g d).parts.length:Int))=true:=gy (by omega);clear f y J l;go_wp2;exact⟨rfl,rfl,r,M.o⟩
  have q4:(((aX g c).parts.length:Int) != ((aX g d).parts.length:Int))=false:=jX (by omega);have z:=f.o;rw[ah (by rintro(h|h|h)<;>contradiction)]at z;have HD3:=hI l;have U:=hI z;clear f y J l z;obtain⟨g1,s⟩:=xE (link g c d);have Qz:=hI s;have P:Hd (uE (DK k) g1 ((aX g c).parts.zip (aX g d).parts)=res):=hI (by rw[s];exact U.o);have Q:=hI (HW.o.parts c A);have S:=hI (HW.o.parts d L);have E:Hd (Wf g1/\Uc g1/\fm g1=fm g+1/\g1.length=g.length):=hI (by
   have l:(aX g c).to=none:=O.o;have J:(aX g d).to=none:=J9.o;rw[s];exact⟨HW.o.link A L l J HAB.o,B.o.link _ _,lJ A l,dP _ _ _⟩)
  have T:Hd (fm g+1<=g.length):=hI (by have:=DJ g1;rw[E.o.2.2.1,E.o.2.2.2]at this;exact this);clear s U;go_wp2;refine eR (λY=>ed jU Y base x g1 r v ps/\mR x r r w Y/\Y.heap[ba]? =some (.cells #[.int .i64 sa,.int .i64 (aX g c).n,.slice p (aX g c).parts.length pc,.int .i64 (NH (aX g c).to)] 193 (0,0))/\
   Y.heap[bb]? =some (.cells #[.int .i64 sb,.int .i64 (aX g d).n,.slice q (aX g d).parts.length qc,.int .i64 (NH (aX g d).to)] 193 (0,0)))
   ⟨by rw[Qz.o];exact o.o.1,M.o.trans o.o.2,(au _ _ _ _ (show ba≠rb by have:=t.o.lt.2 _ HR.o;omega)).trans HA.o,(au _ _ _ _ (show bb≠rb by have:=t.o.lt.2 _ HR.o;omega)).trans cR.o⟩ ?_
  rintro Y ⟨s,l,y,z⟩;have Wk:=hI (FU.o.keep (l.qU t.o (by decide) (by decide)));have EJ:=hI (HTP.o.keep (l.qU t.o (by decide) (by decide)));have U:Hd (x<Y.heap.size/\ba<Y.heap.size/\bb<Y.heap.size/\base<=Y.heap.size/\ba≠x/\bb≠x/\some ba≠r/\some bb≠r):=hI (by
   have h1:=(gE y).1;have h2:=(gE z).1;have h3:=s.lt.1;have h4:=t.o.lt.1;have h5:=t.o.lt.2;have h6:=HB.o;refine⟨h3,h1,h2,by omega,by omega,by omega,λe=> ?_,λe=> ?_⟩
   ·have:=h5 _ e.symm;omega
   ·have:=h5 _ e.symm;omega)
  obtain⟨X,Z,CV,B_⟩:=h_4 s l y z;clear s l y z HA cR o D G q1 C q3 q4 a0 a1 a2 b0 b1 b2 F H I N frb z0 z1 z2 z3
  go_loopw [91] (λi wr=>∃(j:Nat) (l:Gr) (C:Option Nat) (vi:Value),j<=(aX g c).parts.length/\i=.int .i64 j/\ed jU wr base x l C vi ps/\mR x r C Y wr/\Wf l/\Uc l/\fm g+1<=fm l/\l.length=g.length/\
   uE (DK k) l (((aX g c).parts.zip (aX g d).parts).drop j)=res/\wr.heap[ba]? =some (.cells #[.int .i64 sa,.int .i64 (aX g c).n,.slice p (aX g c).parts.length pc,.int .i64 (NH (aX g c).to)] 193 (0,0))/\
   wr.heap[bb]? =some (.cells #[.int .i64 sb,.int .i64 (aX g d).n,.slice q (aX g d).parts.length qc,.int .i64 (NH (aX g d).to)] 193 (0,0))) (λi _=>(aX g c).parts.length-(intOf i).toNat)
  case atStart=>exact⟨0,g1,r,v,aw _,rfl,X.o,mR.refl _ _ _,E.o.1,E.o.2.1,by rw[E.o.2.2.1];exact lR,E.o.2.2.2,P.o,CV.o,B_.o⟩
  case round=>
   obtain⟨j,l,C,vi,hj,rfl,o,D,s,Jo,hli,hlen,u,y,z⟩:=hrel;obtain⟨f,HGI,F⟩:=h_3 u o D;by_cases bO:j<(aX g c).parts.length
   ·have G:j<(aX g d).parts.length:=by rw[<-HD3.o];exact bO
    have dL:=hI bO;have xh:=D.qU X.o (by decide) (by decide);obtain⟨pb,po,RK,hpe,Ke,c0⟩:=(Wk.o.keep xh).cell bO;obtain⟨qb,qo,qc',hqe,nI,d0⟩:=(EJ.o.keep xh).cell G;cases hpe;cases hqe;have zs:=Wg bO G;obtain⟨H,N⟩:=xE ((aX g c).parts[j]?.getD 0);obtain⟨I,J⟩:=xE ((aX g d).parts[j]?.getD 0);have Ud:H<g.length:=Q.o H (by rw[N,ae bO];exact aR _);have yU:I<g.length:=S.o I (by rw[J,ae G];exact aR _);rw[<-N]at c0 zs;rw[<-J]at d0 zs;clear N J;have a2:=fu y;have b2:=fu z;have z1:=af a2;have z2:=af b2;have KZ:(j:Int)<((aX g c).parts.length:Int):=by omega
    have hjJ:(j:Int)<((aX g d).parts.length:Int):=by omega
    have HC:Hd (∀V,Below wr.heap.size wr V->Calls Tryz.prog 76 #[.pointer (some ⟨x,0,none⟩),.int .i64 (H:Nat),.int .i64 (I:Nat)] V (EqP base x C ps V (DK k l H I))):=hI λV hV=>
     Bq k (o.below hV) (by have:=U.o.2.2.2.1;have:=D.size;have:=hV.size;omega) s Jo (by have:=HK.o;have:=T.o;omega) (by omega) (by omega) (by have:=HL.o;omega)
    have QB:=hI (DM k l H I s (by have:=HK.o;have:=T.o;omega) (by omega) (by omega));have N:Hd ((match DK k l H I with|none=>none|some g'=>uE (DK k) g' (((aX g c).parts.zip (aX g d).parts).drop (j+1)))=res):=hI (by rw[<-u,zs];rfl);have GS:Hd (ba≠x/\some ba≠C/\bb≠x/\some bb≠C):=hI (by
     obtain⟨_,h1,h2,_,h3,h4,h5,h6⟩:=U.o;refine⟨h3,λe=> ?_,h4,λe=> ?_⟩
     ·rcases D.new with n|⟨q,n,J⟩
      ·exact h5 (e.trans n)
      ·rw[n]at e;cases e;omega
     ·rcases D.new with n|⟨q,n,J⟩
      ·exact h6 (e.trans n)
      ·rw[n]at e;cases e;omega)
    obtain⟨J,Wl,HLI,wQ,HSI⟩:=h_5 y z hli hlen Jo;clear u zs o D s Jo hli hlen xh y z f CV B_ E P Q S
    go_wp2_with fail
    refine gw 11 (by kernel_rfl) (by kernel_rfl) ?_;simp only[List.take_succ_cons,List.take_zero,List.drop_succ_cons,List.drop_zero]
    repeat go_big_quiet_step (fail)
    refine wpQuiet_nil ?_;intro w3 cP;obtain⟨AK,CW,ahy,ahz⟩:=h_4 (HC.o w3 cP) (F.o.below cP) (bQ J.o cP z1) (bQ Wl.o cP z2);clear HC F J Wl cP c0 d0 a2 b2;cases he:DK k l H I with
    |none=>
     rw[he]at AK N;have HN:=N.o;simp only at HN;subst HN;clear he N
     go_wp2_with fail
     refine AK.o.mono ?_;rintro e w4 ⟨rfl,r4,J⟩;have Wm:=hI (CW.o.trans J);clear J;go_wp2;exact⟨rfl,rfl,r4,Z.o.trans Wm.o⟩
    |some g4=>
     rw[he]at AK N;obtain⟨o1,o2,o3,o4,_⟩:=QB.o.yes g4 he;have ahA:=hI N.o;have HO:=hI (show Wf g4/\Uc g4/\fm g+1<=fm g4/\g4.length=g.length from⟨o1,HSI.o.same o2 λi=>(o4 i).1,ai HLI.o o3,o2.trans wQ.o⟩);clear he N QB o1 o2 o3 o4
     go_wp2_with fail
     refine AK.o.mono ?_;rintro e w4 ⟨rfl,r4,v4,gr4,J⟩;obtain⟨HG4,Wm,akk,akl⟩:=h_4 gr4 (CW.o.trans J) (J.same _ _ ahy.o GS.o.1 GS.o.2.1) (J.same _ _ ahz.o GS.o.2.2.1 GS.o.2.2.2);clear gr4 J ahy ahz;go_wp2
     go_roundw
     case rel=>exact⟨j+1,g4,r4,v4,dL.o,by go_num,HG4.o,Wm.o,HO.o.1,HO.o.2.1,HO.o.2.2.1,HO.o.2.2.2,ahA.o,akk.o,akl.o⟩
     case measure=>have:=dL.o;simp[intOf];omega
   ·obtain rfl:j=(aX g c).parts.length:=by omega
    have J:res=some l:=by rw[<-u,List.drop_eq_nil_of_le (by simp;omega)];rfl
    subst J;clear u o D y z f s Jo;go_wp2
    go_end0
    exact⟨rfl,C,vi,HGI.o,Z.o.trans F.o⟩
end
section
open Go Go.RowKit
structure m_ (E:Nat->Prop) (x:Nat) (r r':Option Nat) (w w':World):Prop where
 os:w'.os=w.os
 tape:w'.tape=w.tape
 output:w'.output=w.output
 size:w.heap.size<=w'.heap.size
 same:∀(q:Nat) (o:Obj),w.heap[q]? =some o->q≠x->some q≠r->¬E q->w'.heap[q]? =some o
 new:r'=r\/∃q,r'=some q/\w.heap.size<=q
theorem mR.toX{r':Option Nat}{w w':World}(h:mR x r r' w w')(E:Nat->Prop):m_ E x r r' w w':=⟨h.os,h.tape,h.output,h.size,λq o e a b _=>h.same q o e a b,h.new⟩
theorem m_.toV{r':Option Nat}{w w':World}(h:m_ (λ_=>False) x r r' w w'):mR x r r' w w':=⟨h.os,h.tape,h.output,h.size,λq o e a b=>h.same q o e a b (λh=>h),h.new⟩
namespace m_
variable {E:Nat->Prop} {x:Nat} {r r1 r2:Option Nat} {a b c:World}
theorem refl(E:Nat->Prop)(x:Nat)(r:Option Nat)(w:World):m_ E x r r w w:=(mR.refl x r w).toX E
theorem cB(E:Nat->Prop)(x:Nat)(r:Option Nat)(h:Below a.heap.size a b):m_ E x r r a b:=(mR.cB x r h).toX E
theorem trans(h:m_ E x r r1 a b)(h':m_ E x r1 r2 b c):m_ E x r r2 a c:=by
 refine⟨h'.os.trans h.os,h'.tape.trans h.tape,h'.output.trans h.output,ai h.size h'.size,λq o e d hr f=> ?_,?_⟩
 ·refine h'.same q o (h.same q o e d hr f) d ?_ f;exact anW
 ·exact an1
theorem below(h:m_ E x r r1 a b)(d:Below b.heap.size b c):m_ E x r r1 a c:=h.trans (cB E x r1 d)
theorem toBelow{B:Nat}(h:m_ E x r r1 a b)(g:B<=x)(d:∀q,r=some q->B<=q)(f:∀q,E q->B<=q)(hB:B<=a.heap.size):Below B a b:=
 ⟨h.os,h.tape,h.output,h.size,λq c=>by
  have e:a.heap[q]? =some (a.heap[q]'(by omega)):=cD (by omega);rw[e];exact h.same q _ e (by omega) (λc=>by have:=d q c.symm;omega) (λc=>by have:=f q c;omega)⟩
end m_
section
variable {K:GK} {w w':World} {base x:Nat} {g:Gr} {r r':Option Nat} {v:Value} {ps:List Value} {E:Nat->Prop}
theorem m_.keep(h:m_ E x r r' w w')(hg:ed K w base x g r v ps){q:Nat}{o:Obj}(ho:w.heap[q]? =some o)(hn:I5 K o)(a:¬E q):w'.heap[q]? =some o:=by
 refine h.same q o ho (λe=> ?_) (λe=> ?_) a
 ·subst e;rw[hg.fW]at ho;cases ho;exact hn.1 rfl
 ·exact aoc
theorem m_.qU(h:m_ E x r r' w w')(a:ed K w base x g r v ps)(b:K.T≠3)(c:K.V≠3)(d:∀q cur t f,E q->w.heap[q]?≠some (.cells cur t f)):lT w w':=λ_ _ _ e=>h.keep a e (by exact⟨λe=>b e.symm,λe=>c e.symm⟩) λh=>d _ _ _ _ h e
end
end
section
open Go Go.RowKit
def jy(w:World)(ps o9:List Value):Prop:=∃l,o9=ps++l/\∀p∈l,∀a n c,p=.slice (some a) n c->0<n->w.heap.size<=a.block
theorem jy.refl(w:World)(ps:List Value):jy w ps ps:=⟨[],by simp,λp hp=>by cases hp⟩
theorem jy.mono{w w1:World}{ps o9:List Value}(h:jy w1 ps o9)(b:w.heap.size<=w1.heap.size):jy w ps o9:=by
 obtain⟨l,e,d⟩:=h;exact⟨l,e,λp hp a n c f g=>ai b (d p hp a n c f g)⟩
theorem jy.trans{w w1:World}{ps b d:List Value}(h:jy w ps b)(h':jy w1 b d)(g:w.heap.size<=w1.heap.size):jy w ps d:=by
 obtain⟨l,rfl,i⟩:=h;obtain⟨j,rfl,k⟩:=h';refine⟨l++j,by simp,λp hp a n c e f=> ?_⟩;rcases aQ.1 hp with hp|hp
 ·exact i p hp a n c e f
 ·exact ai g (k p hp a n c e f)
theorem jy.one{w:World}{ps:List Value}{p:Value}(h:∀a n c,p=.slice (some a) n c->0<n->w.heap.size<=a.block):jy w ps (ps++[p]):=
 ⟨[p],rfl,λq b=>by rw[aJ.1 b];exact h⟩
def Sep(ps:List Value)(o:Option Nat):Prop:=∀p∈ps,∀a n c,p=.slice (some a) n c->0<n->some a.block≠o
theorem Sep.none(ps:List Value):Sep ps none:=λ_ _ _ _ _ _ _ h=>by cases h
section
variable {K:GK} {w w' w1 w2:World} {base x:Nat} {g:Gr} {r r':Option Nat} {v:Value} {ps o9:List Value} {E:Nat->Prop} {o:Option Nat}
theorem ed.Sm(d:ed K w base x g r v ps){p:Value}(hp:p∈ps){a:Addr}{c:Nat}(e:p=.slice (some a) n c)(j:0<n):∃cur f,w.heap[a.block]? =some (.cells cur 3 f):=by
 obtain⟨i,hi,rfl⟩:=bC.1 hp;have h:=d.parts i (by rw[<-d.len];exact hi);rw[ae hi,bK,e]at h;obtain⟨q,cap,k,_,_,_,l⟩:=h;cases k;obtain⟨b,off,cur,f,m,o,_⟩:=l j;cases m;exact⟨cur,f,o⟩
theorem Sep.Ca(b:ed K w base x g r v ps)(d:∀q,o=some q->w.heap.size<=q):Sep ps o:=λp hp a n c e i h=>by
 obtain⟨cur,f,j⟩:=b.Sm hp e i;have:=(gE j).1;have:=d _ h.symm;omega
theorem Sep.new(h:Sep ps o)(f:jy w ps o9)(g:∀q,o=some q->q<w.heap.size):Sep o9 o:=by
 obtain⟨l,rfl,i⟩:=f;intro p hp a n c e b d;rcases aQ.1 hp with hp|hp
 ·exact h p hp a n c e b d
 ·have:=i p hp a n c e b;have:=g _ d.symm;omega
theorem ed.Wn(hg:ed K w base x g r v ps)(j:∀o,w.heap[x]? =some o->w'.heap[x]? =some o)(h2:∀q o,r=some q->w.heap[q]? =some o->w'.heap[q]? =some o)(k:Sep ps o)
 (l:∀(b:Nat) (cur:Array Value) (f:Nat×Nat),w.heap[b]? =some (Obj.cells cur 3 f)->some b≠o->w'.heap[b]? =some (Obj.cells cur 3 f)):ed K w' base x g r v ps:=by
 refine⟨j _ hg.fW,hg.row,⟨hg.own.1,?_⟩,hg.len,λi hi=> ?_,hg.base⟩
 ·exact ana
 ·obtain⟨a,cap,G,m,n,p,hr⟩:=hg.parts i hi;refine⟨a,cap,G,m,n,p,λc=> ?_⟩;obtain⟨b,off,cur,f,d,hb,hc⟩:=hr c;refine⟨b,off,cur,f,d,l b cur f hb ?_,hc⟩;have e:i<ps.length:=by rw[hg.len];exact hi
  rw[ae e,bK]at G;exact k _ (aR e) ⟨b,off,none⟩ _ _ (G.trans (by rw[d])) c
theorem ed.grown(i:ed K w base x g r v ps)(l:K.T≠3)(m:K.V≠3){b0:Nat}{d:Value}{xs:List Value}(p:w.ownsRow b0 3 1 d n xs)(j:w.grownBy w' d.ownBlock)(s:Sep ps d.ownBlock):ed K w' base x g r v ps:=by
 have eC:∀q cur t,w.heap[q]? =some (.cells cur t (0,0))->t≠3->some q≠d.ownBlock:=λq cur t a u e=>by
  rcases p.2 with⟨rfl,_⟩|⟨g',cap,k,rfl,_,c,_⟩
  ·cases e
  ·cases e;rw[c]at a;simp only[aL,Obj.cells.injEq]at a;exact u a.2.1.symm
 refine i.Wn (λo c=> ?_) (λq o a c=> ?_) s (λb cur f k a=>(j.block b (gE k).1 a).trans k)
 ·exact(j.block x (gE c).1 (eC x _ _ i.fW l)).trans c
 ·obtain⟨cur,hc,_⟩:=i.ey a;exact(j.block q (gE c).1 (eC q _ _ hc m)).trans c
theorem m_.grown(h:m_ E x r r' w w1)(a:w1.grownBy w2 o)(c:∀q,o=some q->w.heap.size<=q):m_ E x r r' w w2:=by
 refine⟨a.os.trans h.os,a.tape.trans h.tape,a.output.trans h.output,ai h.size a.size,λq ob e d f g=> ?_,h.new⟩;have b:=h.same q ob e d f g;refine(a.block q (gE b).1 (λi=> ?_)).trans b;have:=c q i.symm;have:=(gE e).1;omega
end
theorem iI{w:World}{b0:Nat}{t:TypeId}{a:Value}{xs:List Value}{s:Nat}(h:w.ownsRow b0 t s a n xs):∀q,a.ownBlock=some q->b0<=q/\q<w.heap.size:=λq b=>World.ownsRow.lt h q b
theorem kO(xs:List Nat)(x:Nat):cX (xs++[x])=cX xs++[((x:Nat):Int)]:=by simp[cX]
theorem _root_.Go.World.grownBy.QC(w:World)(o:Option Nat):w.grownBy w o:=⟨rfl,rfl,rfl,lR,λ_ _ _=>rfl⟩
theorem _root_.Go.World.grownBy.trans'{a b c:World}{o:Option Nat}(h:a.grownBy b o)(h':b.grownBy c o):a.grownBy c o:=
 ⟨h'.os.trans h.os,h'.tape.trans h.tape,h'.output.trans h.output,ai h.size h'.size,λk d e=>(h'.block k (aC d h.size) e).trans (h.block k d e)⟩
attribute [local go_sem] aT cW df
def akm(b0:Nat)(sv:Value)(n:Nat)(w:World):Option (List Nat)->Ending->World->Prop
 |some st,e,w'=>e=.returned (.tuple #[])/\w'.ownsRow b0 3 1 sv n (cE (cX st))/\w.grownBy w' sv.ownBlock
 |none,e,w'=>e=.panicked [{ v:=m9,recovered:=false}]/\w.grownBy w' sv.ownBlock
theorem Hj(st:List Nat)(i x:Nat):(cE (cX st)).set i (.int .i64 ((x:Nat):Int))=cE (cX (st.set i x)):=by
 unfold cE cX;rw[List.map_set,List.map_set];rfl
theorem s6{w:World}{b0 q gs cs:Nat}{sv x:Value}{xs:List Value}{t e:TypeId}(h:w.ownsRow b0 e 1 (.slice (some ⟨gs,0,none⟩) n cs) n xs)(b:w.heap[q]? =some (.cells #[x] t (0,0)))(c:t≠e)(_:sv=sv):some q≠some gs:=λd=>by
 cases d;rcases h.2 with⟨h',_⟩|⟨g',cap,cur,h',_,a,_⟩
 ·simp at h'
 ·simp only[Value.slice.injEq,aL,Addr.mk.injEq,and_true,true_and]at h';obtain⟨rfl,rfl⟩:=h';rw[b]at a;simp only[aL,Obj.cells.injEq]at a;exact c a.2.1
theorem Hk{base b0 v qs y cs:Nat}{gv:Value}{ps:List Value}(hw:Wf g)(hl:g.length<=1000000000):∀(k:Nat) (st:List Nat) (n gs:Nat) (w:World),
 ed jU w base x g r gv ps->Sep ps (some gs)->w.heap[v]? =some (.cells #[.pointer (some ⟨x,0,none⟩)] 107 (0,0))->w.heap[qs]? =some (.cells #[.slice (some ⟨gs,0,none⟩) g.length cs] 74 (0,0))->
 w.heap[y]? =some (.cells #[.func (.func 139) #[] #[.pointer (some ⟨v,0,none⟩),.pointer (some ⟨qs,0,none⟩),.pointer (some ⟨y,0,none⟩)]] 194 (0,0))->
 w.ownsRow b0 3 1 (.slice (some ⟨gs,0,none⟩) g.length cs) g.length (cE (cX st))->n<g.length->(∀m,iu st m<=2)->kj st<k->
 Calls Tryz.prog 139 #[.int .i64 (n:Nat),.pointer (some ⟨v,0,none⟩),.pointer (some ⟨qs,0,none⟩),.pointer (some ⟨y,0,none⟩)] w (akm b0 (.slice (some ⟨gs,0,none⟩) g.length cs) g.length w (jC k g st n))
 |0,_,_,_,_,_,_,_,_,_,_,_,_,h=>ay h (ax _)
 |k+1,st,n,gs,w,W,nZ,z,A,B,J,X,ep,hz=>by
  have hsl:st.length=g.length:=by have:=J.1;rw[dJ,eP]at this;omega
  have Y:=hI (ph W hw X);have K:=hw.il X;unfold jC;generalize find g n=fn at Y K |-;obtain⟨rb,cap,p,pc,q,I,jc,_,RF,cx,D,E,s1,s2,G,fz,sp,_⟩:=W.cells K;rw[q]at cx;have hfI:(fn:Int)<(g.length:Int):=by omega
  have hx:=af cx;have P:=cZ z;have q1:=cZ A;have Q:=cZ B;have C:w.cell? ⟨gs,fn,none⟩=some (.int .i64 ((iu st fn:Nat):Int)):=by
   rw[J.cellAt fn (by omega),eH _ _ (by rw[eP];omega),ky];rfl
  have y1:w.frozen? ⟨gs,fn,none⟩=false:=J.frozenAt fn;have z0:=af P;have S:=af q1;have z2:=af Q;have z3:=af C;have d:=ep fn;obtain⟨F,HG,HL,Z,L,M,N,yx,HZ,HSL⟩:=h_10 J W hl nZ z A B ep hz hsl;clear J W nZ z A B ep hz I sp q E s1 G D fz;have ad7:iu st fn=0\/iu st fn=1\/iu st fn=2:=by omega
  rcases ad7 with c|c|c
  case inr.inl=>
   rw[aq c];rw[c]at C;clear c d
   go_enter Tryz.func139,Tryz.ntmps139
   go_wp2_with (go_at_call 78;(with_reducible refine(Y.o).mono ?_);rintro e w' ⟨rfl,t⟩;rw[t];clear t w')
   exact⟨rfl,rfl,World.grownBy.QC _ _⟩
  case inr.inr=>
   rw[ah (by omega),aq c];rw[c]at C;clear c d
   go_enter Tryz.func139,Tryz.ntmps139
   go_wp2_with (go_at_call 78;(with_reducible refine(Y.o).mono ?_);rintro e w' ⟨rfl,t⟩;rw[t];clear t w')
   go_end0
   exact⟨rfl,F.o,World.grownBy.QC _ _⟩
  rw[ah (by omega),ah (by omega)];rw[c]at C;have T:=AX st fn 1 (by rw[HSL.o];exact K) c (by decide);obtain⟨G,o⟩:=World.ownsRow.stored F.o fn (.int .i64 ((1:Nat):Int));rw[Hj]at G;have s:=HG.o.grown (by decide) (by decide) F.o o Z.o;have u:=(o.block v z0 (s6 (sv:=undef) F.o L.o (by decide) rfl)).trans L.o;have D:=(o.block qs S (s6 (sv:=undef) F.o M.o (by decide) rfl)).trans M.o;have E:=(o.block y z2 (s6 (sv:=undef) F.o N.o (by decide) rfl)).trans N.o;have O:∀m,iu (st.set fn 1) m<=2:=λm=>by
   rw[DQ]
   split
   ·decide
   ·exact yx.o m
  obtain⟨R,H⟩:=xE (n_ (jC k g) (st.set fn 1) (aX g fn).parts);obtain⟨l,U⟩:=xE (st.set fn 1);rw[<-H];rw[<-U]at T G O H;have V:=hI (show _/\_/\_/\_/\_/\_/\_ from⟨G,o,s,u,D,E,O⟩);have Qp:Hd (kj l<k):=hI (by have:=HZ.o;omega);have U_:=hI H;clear c d T G o s u D E O H U s2
  go_enter Tryz.func139,Tryz.ntmps139
  go_upto_region 5 with(go_at_call 78;(with_reducible refine(Y.o).mono ?_);rintro e w' ⟨rfl,t⟩;rw[t];clear t w')
  obtain⟨sv,D⟩:=xE (Value.slice (some ⟨gs,0,none⟩) g.length cs);refine eR (λu=>u.ownsRow b0 3 1 (.slice (some ⟨gs,0,none⟩) g.length cs) g.length (cE (cX l))/\w.grownBy u (some gs)/\ed jU u base x g r gv ps/\u.heap[v]? =some (.cells #[.pointer (some ⟨x,0,none⟩)] 107 (0,0))/\u.heap[qs]? =some (.cells #[.slice (some ⟨gs,0,none⟩) g.length cs] 74 (0,0))/\
   u.heap[y]? =some (.cells #[.func (.func 139) #[] #[.pointer (some ⟨v,0,none⟩),.pointer (some ⟨qs,0,none⟩),.pointer (some ⟨y,0,none⟩)]] 194 (0,0))/\(∀m,iu l m<=2)) V.o ?_
  rintro u ⟨E,G,d,o,s,H,T⟩;obtain⟨rb,cap,p,pc,q,I,jc,_,RF,cx,_,_,_,s2,_,_,sp,_⟩:=d.cells K;rw[q]at cx;have hx:=af cx;have c0:=cZ o;have c1:=cZ s;have zz0:=af c0;have zz1:=af c1;have qz:(aX g fn).parts.length<=140737488355328:=by obtain⟨_,_,_,_,_,h,_⟩:=sp;exact h
  obtain⟨O,K2,K3,K4,K5,K6,K7,SPP,HWP⟩:=h_9 E G d o s H T sp (hw.parts fn K);clear E G d o s H T V q I sp D sv P q1 Q C y1 z0 S z2 z3;go_wp2;clear cx s2 c0 c1
  go_loopw [34] (λi wr=>∃(j:Nat) (d:List Nat),j<=(aX g fn).parts.length/\i=.int .i64 j/\wr.ownsRow b0 3 1 (.slice (some ⟨gs,0,none⟩) g.length cs) g.length (cE (cX d))/\u.grownBy wr (some gs)/\(∀m,iu d m<=2)/\kj d<=kj l/\
   n_ (jC k g) d ((aX g fn).parts.drop j)=R) (λi _=>(aX g fn).parts.length-(intOf i).toNat)
  case atStart=>exact⟨0,l,aw _,rfl,O.o,World.grownBy.QC _ _,K7.o,lR,U_.o.symm⟩
  case round=>
   obtain⟨j,d,hj,rfl,q,o,P,s,Q⟩:=hrel;have gj:=K3.o.grown (by decide) (by decide) O.o o Z.o;have e4:=(o.block v zz0 (s6 (sv:=undef) O.o K4.o (by decide) rfl)).trans K4.o;have S:=(o.block qs zz1 (s6 (sv:=undef) O.o K5.o (by decide) rfl)).trans K5.o;have T:=(o.block y (gE K6.o).1 (s6 (sv:=undef) O.o K6.o (by decide) rfl)).trans K6.o;have Oi:=hI o;have HZJ:=hI s;by_cases U:j<(aX g fn).parts.length
   ·have dL:=hI U;have Wr:some gs≠(Value.slice p (aX g fn).parts.length pc).ownBlock:=λe=>by
     cases p with
     |none=>cases e
     |some a=>exact Z.o _ (List.mem_of_getElem? (by assumption)) a _ _ rfl (by omega) e.symm
    have ju:dw wr (.slice p (aX g fn).parts.length pc) (aX g fn).parts:=by
     obtain⟨a,G,D,H,I,V,Nb⟩:=SPP.o;refine⟨a,G,D,H,I,V,λc=> ?_⟩;obtain⟨b,off,cur,f,ha,E,hc⟩:=Nb c;cases D;subst ha;exact⟨b,off,cur,f,rfl,(o.block b (gE E).1 (λe=>Wr e.symm)).trans E,hc⟩
    obtain⟨pb,po,RK,hpe,Ke,d0⟩:=ju.cell U;cases hpe;obtain⟨D,V⟩:=xE ((aX g fn).parts[j]?.getD 0);have Ud:D<g.length:=HWP.o D (by rw[V,ae U];exact aR _);have E:(aX g fn).parts.drop j=D::(aX g fn).parts.drop (j+1):=by rw[bI U,V,ae U];rfl
    rw[<-V]at d0;have H:=Hk hw HL.o k d D gs wr gj Z.o e4 S T q Ud P (by have:=Qp.o;omega);have I:Hd ((match jC k g d D with|none=>none|some xf=>n_ (jC k g) xf ((aX g fn).parts.drop (j+1)))=R):=hI (by rw[<-Q,E];rfl);have c6:=cZ T;have z6:=af c6;have KZ:(j:Int)<((aX g fn).parts.length:Int):=by omega
    have eg:∀args w,(callFunc 139 args).run Tryz.prog w=.ok (.enter 139 args) w:=enters_of Tryz.func139 (by kernel_rfl) rfl;have QB:=hI (λxf h=>y_ hw k d xf D (by have:=q.1;rw[dJ,eP]at this;omega) Ud P h);cases he:jC k g d D with
    |none=>
     rw[he]at H I;have G:=I.o;simp only at G;subst G;have HC:=hI H;clear he I H Q E ju Wr V gj e4 S T q o P s QB
     go_wp2_with fail
     refine HC.o.mono ?_;rintro e w4 ⟨rfl,m4⟩;have Wm:=hI ((K2.o.trans' Oi.o).trans' m4);clear m4;go_wp2;exact⟨rfl,rfl,Wm.o⟩
    |some st4=>
     rw[he]at H I;obtain⟨HC,HV,HR4⟩:=h_3 H ((QB.o st4 he).1) I.o;clear he I H Q E ju Wr V gj e4 S T q o P s QB;exact anc
   ·obtain rfl:j=(aX g fn).parts.length:=by omega
    have X:R=some d:=by rw[<-Q,List.drop_eq_nil_of_le lR];rfl
    have E:d.length=g.length:=by have:=q.1;rw[dJ,eP]at this;omega
    subst X;have c1:=cZ S;have I:=af c1;have C:wr.cell? ⟨gs,fn,none⟩=some (.int .i64 ((iu d fn:Nat):Int)):=by
     rw[q.cellAt fn (by omega),eH _ _ (by rw[eP];omega),ky];rfl
    have y1:wr.frozen? ⟨gs,fn,none⟩=false:=q.frozenAt fn;have V:=af C;obtain⟨G,D⟩:=World.ownsRow.stored q fn (.int .i64 ((2:Nat):Int));rw[Hj]at G;have H:=hI (show _/\_ from⟨G,(K2.o.trans' o).trans' D⟩);clear Q gj e4 S T q o P s G D E;go_wp2
    go_end0
    exact⟨rfl,H.o.1,H.o.2⟩
def ako(w:World):Option (List Nat)->Ending->World->Prop
 |some _,e,w'=>e=.returned (.tuple #[])/\Below w.heap.size w w'
 |none,e,w'=>e=.panicked [{ v:=m9,recovered:=false}]/\Below w.heap.size w w'
theorem Ss(n:Nat):(madeCells #[.int .i64 0] n).toList=cE (cX (List.replicate n 0)):=by
 rw[toList_madeCells_one];unfold cE cX eT;rw[List.map_replicate,List.map_replicate];rfl
theorem s_{base:Nat}{gv:Value}{ps:List Value}{w:World}(o:ed jU w base x g r gv ps)(hw:Wf g)(I:g.length<=1000000000):
 Calls Tryz.prog 77 #[.pointer (some ⟨x,0,none⟩)] w (ako w (eX g)):=by
 obtain⟨J,K,rfl⟩:=cr o.own;have cx:=cZ o.fW;have c:=o.lt.1;obtain⟨i0,hi,H,L,M⟩:=info_parts Tryz.BZ;obtain⟨w1,b⟩:=xE (w.alloc (.cells #[.pointer (some ⟨x,0,none⟩)] 107));have a:Below w.heap.size w w1:=by rw[b];exact Below.cA _ _
 have f:w1.heap[w.heap.size]? =some (.cells #[.pointer (some ⟨x,0,none⟩)] 107 (0,0)):=by rw[b];exact a_ _ _
 have s1:w.heap.size+1=w1.heap.size:=by rw[b];simp
 obtain⟨u,v,y,N,O,Z⟩:=h_6 (o.below a) a f s1 hw I;have DS:=I;clear a f s1 hw o
 go_enter Tryz.func77,Tryz.ntmps77
 go_upto_region 1 with fail
 rw[<-b];have a:w1.cell? ⟨x,0,none⟩=some (.slice J g.length K):=(v.o.cell (p:=⟨x,0,none⟩) c).trans cx;have A:=cZ y.o;have P:=af a;have B:=af A;clear b cx c
 go_wp2_with (at_make;refine wpList_make_full _ rfl _ _ 74 rfl 0 3 i0 (.int .i64 0) 1 Tryz.underlying74 hi H L .i64 .i64 _ _ g.length rfl rfl rfl rfl ?c1 ?c2 ?c3 ?_)
 case c1=>rw[M];omega
 case c2=>unfold maxLen;omega
 case c3=>exact aw _
 intro z t c;rw[Ss]at t;have f:Below w1.heap.size w1 z:=⟨c.os,c.tape,c.output,c.size,λq d=>c.block q d (by simp)⟩;obtain⟨gs,Q⟩:=xE w1.heap.size;rw[<-Q]at t |-;have aaB:∀(fn:Fn) (first cap:Array Value) (w:World),(Instr.makeFunc fn first cap).run Tryz.prog w=.ok (.func fn first cap) w:=λ_ _ _ _=>rfl;obtain⟨qs,b⟩:=xE z.heap.size;have F:=hI b;have C:=cH z (.cells #[.slice (some ⟨gs,0,none⟩) g.length g.length] 74) (.cells #[.func (.func 139) #[] #[.pointer (some ⟨w.heap.size,0,none⟩),.pointer (some ⟨qs,0,none⟩),.pointer (some ⟨qs+1,0,none⟩)]] 194);rw[<-b]at C;have S:=bQ y.o f B;have k:=(f.cell (p:=⟨x,0,none⟩) P).trans a;have l:=(f.cell (p:=⟨w.heap.size,0,none⟩) B).trans A;have D:=af k;have n:=af l;have G:=Below.jE z (.cells #[.slice (some ⟨gs,0,none⟩) g.length g.length] 74) (.cells #[.func (.func 139) #[] #[.pointer (some ⟨w.heap.size,0,none⟩),.pointer (some ⟨qs,0,none⟩),.pointer (some ⟨qs+1,0,none⟩)]] 194);obtain⟨T,s,U,V,E⟩:=h_5 (gC t (CK.below G)) ((u.o.below f).below G) (ag (ag v.o f lR) G lR) (bQ S G n) C;have X:Hd (w.heap.size<gs):=hI (by have:=N.o;omega);have Y:Hd (Sep ps (some gs)):=hI (Sep.Ca u.o (λq d=>by cases d;omega));clear b t c f S Q C G u v y N a A P B hi H L M i0;go_wp2;rw[<-F.o];refine eR (λW=>W.ownsRow 0 3 1 (.slice (some ⟨gs,0,none⟩) g.length g.length) g.length (cE (cX (List.replicate g.length 0)))/\ed jU W base x g r (.slice J g.length K) ps/\Below w.heap.size w W/\W.heap[w.heap.size]? =some (.cells #[.pointer (some ⟨x,0,none⟩)] 107 (0,0))/\
  W.heap[qs]? =some (.cells #[.slice (some ⟨gs,0,none⟩) g.length g.length] 74 (0,0))/\W.heap[qs+1]? =some (.cells #[.func (.func 139) #[] #[.pointer (some ⟨w.heap.size,0,none⟩),.pointer (some ⟨qs,0,none⟩),.pointer (some ⟨qs+1,0,none⟩)]] 194 (0,0))) ⟨T.o,s.o,U.o,V.o,E.o.1,E.o.2⟩ ?_
 rintro W ⟨f,u,v,o4,a,b⟩;have z4:=(gE o4).1;have z5:=(gE a).1;have Q:=(gE b).1;obtain⟨t,S,L,M,N,P⟩:=h_6 f u v o4 a b;obtain⟨R,c⟩:=xE (eX g);have HR:Hd (n_ (jC (g.length+1) g) (List.replicate g.length 0) (List.range g.length)=R):=hI c.symm;rw[<-c];clear f u v o4 a b c T s U V E k l D n
 go_loopw [17] (λi wr=>∃(j:Nat) (a:List Nat),j<=g.length/\i=.int .i64 j/\wr.ownsRow 0 3 1 (.slice (some ⟨gs,0,none⟩) g.length g.length) g.length (cE (cX a))/\W.grownBy wr (some gs)/\(∀m,iu a m<=2)/\kj a<=g.length/\
  n_ (jC (g.length+1) g) a ((List.range g.length).drop j)=R) (λi _=>g.length-(intOf i).toNat)
 case atStart=>exact⟨0,_,aw _,rfl,t.o,World.grownBy.QC _ _,λm=>by rw[pn];decide,by rw[CA];exact lR,HR.o⟩
 case round=>
  obtain⟨j,a,U,rfl,s,b,u,c,v⟩:=hrel;have A:=S.o.grown (by decide) (by decide) t.o b Y.o;have B:=(b.block w.heap.size z4 (s6 (sv:=undef) t.o M.o (by decide) rfl)).trans M.o;have C:=(b.block qs z5 (s6 (sv:=undef) t.o N.o (by decide) rfl)).trans N.o;have y:=(b.block (qs+1) Q (s6 (sv:=undef) t.o P.o (by decide) rfl)).trans P.o;have D:Below w.heap.size w wr:=L.o.grown b L.o.size (λq d=>by cases d;exact bt X.o);obtain⟨Oi,HZJ,f⟩:=h_3 b c D;by_cases E:j<g.length
  ·have dL:=hI E;have k:(List.range g.length).drop j=j::(List.range g.length).drop (j+1):=by rw[bI (by simpa using E)];simp
   have l:=Hk (b0:=0) O.o Z.o (g.length+1) a j gs wr A Y.o B C y s E u (by omega);have n:Hd ((match jC (g.length+1) g a j with|none=>none|some xf=>n_ (jC (g.length+1) g) xf ((List.range g.length).drop (j+1)))=R):=hI (by rw[<-v,k];rfl);have c6:=cZ y;have T:=af c6;have V:(j:Int)<(g.length:Int):=by omega
   have eg:∀args w,(callFunc 139 args).run Tryz.prog w=.ok (.enter 139 args) w:=enters_of Tryz.func139 (by kernel_rfl) rfl;have H:=hI (λxf h=>y_ O.o (g.length+1) a xf j (by have:=s.1;rw[dJ,eP]at this;omega) E u h);cases he:jC (g.length+1) g a j with
   |none=>
    rw[he]at l n;have G:=n.o;simp only at G;subst G;have HC:=hI l;clear he n l v k A B C y s b u c D H
    go_wp2_with fail
    refine HC.o.mono ?_;rintro e w4 ⟨rfl,m4⟩;have Wm:=hI (f.o.grown m4 f.o.size (λq d=>by cases d;exact bt X.o));clear m4;go_wp2;exact⟨rfl,rfl,Wm.o⟩
   |some st4=>
    rw[he]at l n;obtain⟨HC,HV,HR4⟩:=h_3 l ((H.o st4 he).1) n.o;clear he n l v k A B C y s b u c D H;exact anc
  ·obtain rfl:j=g.length:=by omega
   have G:R=some a:=by rw[<-v,List.drop_eq_nil_of_le (by simp)];rfl
   subst G;clear v A B C y s b u c D;go_wp2
   go_end0
   exact⟨rfl,f.o⟩
end
end Go.Proofs.YtnicceekibancaaGreat
