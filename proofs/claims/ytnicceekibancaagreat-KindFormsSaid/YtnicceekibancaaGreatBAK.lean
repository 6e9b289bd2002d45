/- Lemmas: KnoF KnoG Has KnoH LawF OpenK OpenL OpenM. -/
import Derived.Test.YtnicceekibancaaGreatBZ
import Derived.Test.YtnicceekibancaaGreatBAJ
import Derived.Deep.Cut
import Derived.Test.YtnicceekibancaaGreatBAH
import Derived.Test.YtnicceekibancaaGreatBAI
import Derived.Test.YtnicceekibancaaGreatBAC
import Derived.Deep.Slices
import Derived.Deep.Fields
import Derived.ChangeSame
import Derived.SizedLaws
import Derived.Lib.SmallJoins
import Derived.Test.YtnicceekibancaaGreatBAB
import Derived.Test.YtnicceekibancaaGreatRows
import Derived.ProofKit
import Derived.LaidMore
import Derived.Handed
import Derived.Carry
set_option linter.all false
set_option maxRecDepth 100000
set_option maxHeartbeats 8000000
namespace Go.Proofs.YtnicceekibancaaGreat
variable{P:Program}{T e:TypeId}{a:Int}{n:Nat}{v:Value}{w:World}
section
deriving instance DecidableEq for Um
def tv(n:Int):Nd:=⟨1,n,.nil⟩
def ti:Nd:=⟨2,0,.nil⟩
def Rs(a b:Nd):Nd:=⟨3,0,Fo.of [a,b]⟩
def Gz(a:Nd):Nd:=⟨4,1,Fo.of [a]⟩
theorem DI:dg j3=true/\iy tL=true/\iy yT=true:=by decide +kernel
theorem ab6:MN true (Rs (tv 1) (tv 0)) (Rs (Gz (tv 0)) ti)=.ok [(0,ti),(1,Gz ti)]:=by decide +kernel
theorem PR:MN true (tv 0) (Gz (tv 0))=.rp:=by decide +kernel
theorem ab7:PH (Rs (tv 0) (tv 0)) (Rs ti ti)=some [(0,ti)]:=by decide +kernel
theorem Rt:vC true tL=.ok [Rs (Gz (tv 0)) (Rs (Gz (tv 0)) (Gz (tv 0)))]:=by decide +kernel
theorem ab8:vC true yT=.ok [Rs (tv 0) (Rs (tv 1) (tv 2)),Rs (tv 1) (Rs (tv 0) (tv 2))]:=by decide +kernel
def agP:Nd:=tfn 0 [tx 0,tcn 3 [⟨2,1,.nil⟩,tx 1]]
theorem ab9:PA true (kn tL [Rs (Gz (tv 0)) (Rs (Gz (tv 0)) (Gz (tv 0)))] []) (cC agP) agP=.ok [Gz ti,Gz ti,Gz ti]:=by decide +kernel
theorem YS:XW true tL [Rs (tv 0) (Rs (tv 1) (tv 1))]=some 0:=by decide +kernel
theorem YT:eA yT.prog=[[0,1]]:=by decide +kernel
end
section
open Go Go.RowKit Go.Sort
attribute [local go_sem] aT cW df nV uV
theorem BK(w:World):Calls Tryz.prog 64 #[] w λe w'=>∃v,e=.returned v/\eB w' w'.heap.size v j3/\Below w.heap.size w w':=by
 refine(FM w).mono ?_;rintro e w' ⟨v,rfl,a,b⟩;exact⟨v,rfl,b w' ⟨lR,λ_ _ _ h=>h⟩,a⟩
theorem tM{w':World}{t:Nd}(h:cV w w.heap.size v t)(a:Below w.heap.size w w'):cV w' w'.heap.size v t:=(h.below a lR).mono a.size
theorem YU{w':World}{l:List fV}(h:eB w w.heap.size v l)(a:Below w.heap.size w w'):eB w' w'.heap.size v l:=(h.below a lR).mono a.size
end
section
open Go Go.RowKit Go.Sort
inductive Kd where
 |nd (t:Nd)
 |fo (F:Fo)
 |dt (l:List fV)
 |md (m:Md)
 |bd (l:List Bd)
 |gp (l:List (List Int))
 |ob (b:Nat) (o:Obj)
def Is(w:World)(v:Value):Kd->Prop
 | .nd t=>cV w w.heap.size v t
 | .fo F=>dr w w.heap.size v F
 | .dt l=>eB w w.heap.size v l
 | .md m=>jM w w.heap.size v m
 | .bd l=>lz w w.heap.size v l
 | .gp l=>mA w w.heap.size v l
 | .ob b o=>w.heap[b]? =some o
section
variable {w0 w w':World} {l:List (Value×Kd)} {v:Value} {k:Kd} {t u:Nd}
theorem Is.keep(h:Is w v k)(a:Below w.heap.size w w'):Is w' v k:=by
 cases k with
 |nd t=>exact tM h a
 |fo F=>exact(dr.below h a lR).mono a.size
 |dt l=>exact YU h a
 |md m=>exact(jM.below h a lR).mono a.size
 |bd l=>exact(lz.below h a lR).mono a.size
 |gp l=>exact(mA.below h a lR).mono a.size
 |ob b o=>exact cY a h
def Has(w0 w:World)(l:List (Value×Kd)):Prop:=Below w0.heap.size w0 w/\∀p∈l,Is w p.1 p.2
theorem Has.start(w:World):Has w w []:=⟨bR,λ_ h=>by cases h⟩
theorem Has.step(h:Has w0 w l)(a:Below w.heap.size w w'):Has w0 w' l:=⟨ag h.1 a lR,λp hp=>(h.2 p hp).keep a⟩
theorem Has.push(h:Has w0 w l)(a:Below w.heap.size w w')(k:Kd)(b:Is w' v k):Has w0 w' ((v,k)::l):=⟨(h.step a).1,λp hp=>by
 rcases aE.1 hp with rfl|hp
 ·exact b
 ·exact(h.step a).2 p hp⟩
theorem Has.nd(h:Has w0 w l)(a:Below w.heap.size w w')(b:cV w' w'.heap.size v t):Has w0 w' ((v,.nd t)::l):=h.push a _ b
theorem Has.get(h:Has w0 w l)(i:Nat)(e:l[i]? =some (v,k)):Is w v k:=h.2 _ (List.mem_of_getElem? e)
theorem Has.gn(h:Has w0 w l)(i:Nat)(e:l[i]? =some (v,.nd t)):cV w w.heap.size v t:=h.get i e
theorem Has.gf(h:Has w0 w l)(i:Nat){F:Fo}(e:l[i]? =some (v,.fo F)):dr w w.heap.size v F:=h.get i e
theorem Has.gd(h:Has w0 w l)(i:Nat){F:List fV}(e:l[i]? =some (v,.dt F)):eB w w.heap.size v F:=h.get i e
theorem Has.gm(h:Has w0 w l)(i:Nat){F:Md}(e:l[i]? =some (v,.md F)):jM w w.heap.size v F:=h.get i e
theorem Has.gb(h:Has w0 w l)(i:Nat){F:List Bd}(e:l[i]? =some (v,.bd F)):lz w w.heap.size v F:=h.get i e
theorem Has.gg(h:Has w0 w l)(i:Nat){F:List (List Int)}(e:l[i]? =some (v,.gp F)):mA w w.heap.size v F:=h.get i e
theorem Has.go(h:Has w0 w l)(i:Nat){b:Nat}{o:Obj}(e:l[i]? =some (v,.ob b o)):w.heap[b]? =some o:=h.get i e
theorem Has.ajQ(h:Has w0 w l){n:Int}{k:Value}(hi:cV w w.heap.size (.agg #[.int .i64 a,.int .i64 n,k]) t):Has w0 (w.alloc (.cells #[.int .i64 a,.int .i64 n,k] T)) ((.slice (some ⟨w.heap.size,0,none⟩) 1 1,.fo (Fo.of [t]))::l):=by
 obtain⟨b,d⟩:=qS w (.cells #[.int .i64 a,.int .i64 n,k] T);obtain⟨g,e,c,r,f⟩:=tM hi b;cases e;exact h.push b (.fo _) (FL (F:=Fo.of [t]) (cells:=[.int .i64 t.a,.int .i64 t.n,k]) d (gE d).1 rfl (by decide:0<1) (by decide:1<=1000) ⟨rfl,rfl,⟨c,r,f⟩,trivial⟩)
theorem Has.ab_(h:Has w0 w l){n b m:Int}{k j:Value}(hi:cV w w.heap.size (.agg #[.int .i64 a,.int .i64 n,k]) t)(d:cV w w.heap.size (.agg #[.int .i64 b,.int .i64 m,j]) u):Has w0 (w.alloc (.cells #[.int .i64 a,.int .i64 n,k,.int .i64 b,.int .i64 m,j] T)) ((.slice (some ⟨w.heap.size,0,none⟩) 2 2,.fo (Fo.of [t,u]))::l):=by
 obtain⟨c,f⟩:=qS w (.cells #[.int .i64 a,.int .i64 n,k,.int .i64 b,.int .i64 m,j] T);obtain⟨p,e,g⟩:=tM hi c;obtain⟨q,i,o⟩:=tM d c;cases e;cases i;exact h.push c (.fo _) (rG f g o)
theorem Has.bd1(h:Has w0 w l){x n:Int}{k:Value}(hi:cV w w.heap.size (.agg #[.int .i64 a,.int .i64 n,k]) t):Has w0 (w.alloc (.cells #[.int .i64 x,.int .i64 a,.int .i64 n,k] T)) ((.slice (some ⟨w.heap.size,0,none⟩) 1 1,.bd [⟨x,t⟩])::l):=by
 obtain⟨b,c⟩:=qS w (.cells #[.int .i64 x,.int .i64 a,.int .i64 n,k] T);obtain⟨f,e,d⟩:=tM hi b;cases e;refine h.push b (.bd _) ⟨_,qy (n:=1) (sz:=4) (cells:=[.int .i64 x,.int .i64 t.a,.int .i64 t.n,k]) c (gE c).1 rfl (by decide),λi hi=> ?_⟩
 match i,hi with
 |0,_=>exact⟨rfl,rfl,rfl,d⟩
 |i+1,h=>exact ay h (by show ¬i+1<1;omega)
theorem Has.bd2(h:Has w0 w l){x n y b m:Int}{k j:Value}(hi:cV w w.heap.size (.agg #[.int .i64 a,.int .i64 n,k]) t)(f:cV w w.heap.size (.agg #[.int .i64 b,.int .i64 m,j]) u):Has w0 (w.alloc (.cells #[.int .i64 x,.int .i64 a,.int .i64 n,k,.int .i64 y,.int .i64 b,.int .i64 m,j] T)) ((.slice (some ⟨w.heap.size,0,none⟩) 2 2,.bd [⟨x,t⟩,⟨y,u⟩])::l):=by
 obtain⟨c,d⟩:=qS w (.cells #[.int .i64 x,.int .i64 a,.int .i64 n,k,.int .i64 y,.int .i64 b,.int .i64 m,j] T);obtain⟨q,e,g⟩:=tM hi c;obtain⟨r,o,p⟩:=tM f c;cases e;cases o;refine h.push c (.bd _) ⟨_,qy (n:=2) (sz:=4) (cells:=[.int .i64 x,.int .i64 t.a,.int .i64 t.n,k,.int .i64 y,.int .i64 u.a,.int .i64 u.n,j]) d (gE d).1 rfl (by decide),λi hi=> ?_⟩
 match i,hi with
 |0,_=>exact⟨rfl,rfl,rfl,g⟩
 |1,_=>exact⟨rfl,rfl,rfl,p⟩
 |i+2,h=>exact ay h (by show ¬i+2<2;omega)
theorem Has.ajR(h:Has w0 w l){x y z:Value}:Has w0 (w.alloc (.cells #[x,y,z] T)) ((.agg #[],.ob w.heap.size (.cells #[x,y,z] T (0,0)))::l):=h.push (Below.cA _ _) (.ob _ _) (a_ _ _)
theorem dF{b:Nat}{x y z:Value}(h:w.heap[b]? =some (.cells #[x,y,z] T (0,0))):w.cell? ⟨b,0,none⟩=some x/\w.cell? ⟨b,1,none⟩=some y/\w.cell? ⟨b,2,none⟩=some z:=⟨by rw[cell_of_row _ _ _ _ _ _ h];rfl,by rw[cell_of_row _ _ _ _ _ _ h];rfl,by rw[cell_of_row _ _ _ _ _ _ h];rfl⟩
theorem Has.gp1(h:Has w0 w l){T':TypeId}:Has w0 ((w.alloc (.cells #[.int .i64 0,.int .i64 1] T)).alloc (.cells #[.slice (some ⟨w.heap.size,0,none⟩) 2 2] T')) ((.slice (some ⟨w.heap.size+1,0,none⟩) 1 1,.gp [[0,1]])::l):=by
 obtain⟨b,a⟩:=nH2 w (.cells #[.int .i64 0,.int .i64 1] T) (.cells #[.slice (some ⟨w.heap.size,0,none⟩) 2 2] T');have z:=(gE a.2).1;refine h.push b (.gp _) ⟨_,qy (n:=1) (sz:=1) (cells:=[.slice (some ⟨w.heap.size,0,none⟩) 2 2]) a.2 z rfl (by decide),λi hi=> ?_⟩
 match i,hi with
 |0,_=>
  refine(qy (n:=2) (sz:=1) (cells:=[.int .i64 0,.int .i64 1]) a.1 (by omega) rfl (by decide)).congr λi hi=> ?_
  match i,hi with
  |0,_=>rfl
  |1,_=>rfl
  |i+2,h=>exact ay h (by show ¬i+2<2*1;omega)
 |i+1,h=>exact ay h (by show ¬i+1<1;omega)
end
theorem lN{f:FuncId}{args:Array Value}{b:Bool}(h:aH P f args w (.bool b))(a:b=true):aH P f args w (.bool true):=a ▸ h
attribute [local go_sem] aT cW df nV uV
theorem M9:∀r∈tL.prog.rules++yT.prog.rules,nh r:=by unfold nh;decide +kernel
abbrev agQ:Oper:=⟨some 147,.move (.tmp 7),24,e9,#[],none⟩
abbrev agR:Oper:=⟨some 148,.call ⟨.value (.func 38),#[.const (.int .i64 0)],#[3]⟩,26,e9,#[],none⟩
abbrev agS:Oper:=⟨some 149,.call ⟨.value (.func 65),#[.tmp 148],#[26]⟩,26,e9,#[aj 1,ao 1],none⟩
abbrev agT:Oper:=⟨some 150,.call ⟨.value (.func 38),#[.const (.int .i64 0)],#[3]⟩,26,e9,#[ao 2],none⟩
abbrev agU:Oper:=⟨some 151,.call ⟨.value (.func 65),#[.tmp 150],#[26]⟩,26,e9,#[aj 3,ao 3],none⟩
abbrev agV:Oper:=⟨some 152,.call ⟨.value (.func 38),#[.const (.int .i64 0)],#[3]⟩,26,e9,#[ao 4],none⟩
abbrev agW:Oper:=⟨some 153,.call ⟨.value (.func 65),#[.tmp 152],#[26]⟩,26,e9,#[aj 5,ao 5],none⟩
abbrev agX:Oper:=⟨some 154,.call ⟨.value (.func 42),#[.tmp 151,.tmp 153],#[26,26]⟩,26,e9,#[aj 4,aj 6,ao 6],none⟩
abbrev agY:Oper:=⟨some 155,.call ⟨.value (.func 42),#[.tmp 149,.tmp 154],#[26,26]⟩,26,e9,#[aj 2,aj 7,ao 7],none⟩
abbrev agZ:Oper:=⟨some 156,.buildSlice 24 1 #[(0,.tmp 155)],24,e9,#[aj 8],none⟩
abbrev aca:Oper:=⟨some 157,.call ⟨.value (.func 32),#[.tmp 147,.tmp 156],#[24,24]⟩,4,e9,#[aj 0,aj 9,ao 8],none⟩
abbrev acb:Oper:=⟨some 158,.move (.tmp 157),4,e9,#[aj 10,ao 10],none⟩
abbrev acd:Oper:=⟨some 159,.move (.tmp 9),24,e9,#[a6 11],some (11,true)⟩
abbrev ace:Oper:=⟨some 160,.call ⟨.value (.func 38),#[.const (.int .i64 0)],#[3]⟩,26,e9,#[ao 11,a6 11],some (11,true)⟩
abbrev acf:Oper:=⟨some 161,.call ⟨.value (.func 38),#[.const (.int .i64 1)],#[3]⟩,26,e9,#[ao 13,a6 11],some (11,true)⟩
abbrev acg:Oper:=⟨some 162,.call ⟨.value (.func 38),#[.const (.int .i64 2)],#[3]⟩,26,e9,#[ao 14,a6 11],some (11,true)⟩
abbrev ach:Oper:=⟨some 163,.call ⟨.value (.func 42),#[.tmp 161,.tmp 162],#[26,26]⟩,26,e9,#[aj 14,aj 15,ao 15,a6 11],some (11,true)⟩
abbrev aci:Oper:=⟨some 164,.call ⟨.value (.func 42),#[.tmp 160,.tmp 163],#[26,26]⟩,26,e9,#[aj 13,aj 16,ao 16,a6 11],some (11,true)⟩
abbrev acj:Oper:=⟨some 165,.call ⟨.value (.func 38),#[.const (.int .i64 1)],#[3]⟩,26,e9,#[ao 17,a6 11],some (11,true)⟩
abbrev ack:Oper:=⟨some 166,.call ⟨.value (.func 38),#[.const (.int .i64 0)],#[3]⟩,26,e9,#[ao 18,a6 11],some (11,true)⟩
abbrev acm:Oper:=⟨some 167,.call ⟨.value (.func 38),#[.const (.int .i64 2)],#[3]⟩,26,e9,#[ao 19,a6 11],some (11,true)⟩
abbrev acn:Oper:=⟨some 168,.call ⟨.value (.func 42),#[.tmp 166,.tmp 167],#[26,26]⟩,26,e9,#[aj 19,aj 20,ao 20,a6 11],some (11,true)⟩
abbrev aco:Oper:=⟨some 169,.call ⟨.value (.func 42),#[.tmp 165,.tmp 168],#[26,26]⟩,26,e9,#[aj 18,aj 21,ao 21,a6 11],some (11,true)⟩
abbrev acp:Oper:=⟨some 170,.buildSlice 24 2 #[(0,.tmp 164),(1,.tmp 169)],24,e9,#[aj 17,aj 22,a6 11],some (11,true)⟩
abbrev acq:Oper:=⟨some 171,.call ⟨.value (.func 32),#[.tmp 159,.tmp 170],#[24,24]⟩,4,e9,#[aj 12,aj 23,ao 22,a6 11],some (11,true)⟩
abbrev acr:Oper:=⟨some 172,.pick (.tmp 158) (.tmp 171) (.const (.bool false)),4,e9,#[aj 11,aj 24],none⟩
abbrev acs:Oper:=⟨some 173,.move (.tmp 172),4,e9,#[aj 25,ao 24],none⟩
abbrev acu:Oper:=⟨some 174,.load 26 (.tmp 11),26,e9,#[a6 26],some (26,true)⟩
abbrev acv:Oper:=⟨some 175,.call ⟨.value (.func 41),#[],#[]⟩,26,e9,#[ao 26,a6 26],some (26,true)⟩
abbrev acw:Oper:=⟨some 176,.call ⟨.value (.func 65),#[.tmp 175],#[26]⟩,26,e9,#[aj 28,ao 28,a6 26],some (26,true)⟩
abbrev acx:Oper:=⟨some 177,.call ⟨.value (.func 31),#[.tmp 174,.tmp 176],#[26,26]⟩,4,e9,#[aj 27,aj 29,ao 29,a6 26],some (26,true)⟩
abbrev acy:Oper:=⟨some 178,.pick (.tmp 173) (.tmp 177) (.const (.bool false)),4,e9,#[aj 26,aj 30],none⟩
abbrev acz:Oper:=⟨some 179,.move (.tmp 178),4,e9,#[aj 31,ao 30],none⟩
abbrev acA:Oper:=⟨some 180,.move (.tmp 12),24,e9,#[a6 32],some (32,true)⟩
abbrev acB:Oper:=⟨some 181,.call ⟨.value (.func 41),#[],#[]⟩,26,e9,#[ao 32,a6 32],some (32,true)⟩
abbrev acC:Oper:=⟨some 182,.call ⟨.value (.func 65),#[.tmp 181],#[26]⟩,26,e9,#[aj 34,ao 34,a6 32],some (32,true)⟩
abbrev acD:Oper:=⟨some 183,.call ⟨.value (.func 41),#[],#[]⟩,26,e9,#[ao 35,a6 32],some (32,true)⟩
abbrev acE:Oper:=⟨some 184,.call ⟨.value (.func 65),#[.tmp 183],#[26]⟩,26,e9,#[aj 36,ao 36,a6 32],some (32,true)⟩
abbrev acF:Oper:=⟨some 185,.buildSlice 24 2 #[(0,.tmp 182),(1,.tmp 184)],24,e9,#[aj 35,aj 37,a6 32],some (32,true)⟩
abbrev acG:Oper:=⟨some 186,.call ⟨.value (.func 32),#[.tmp 180,.tmp 185],#[24,24]⟩,4,e9,#[aj 33,aj 38,ao 37,a6 32],some (32,true)⟩
abbrev acH:Oper:=⟨some 187,.pick (.tmp 179) (.tmp 186) (.const (.bool false)),4,e9,#[aj 32,aj 39],none⟩
abbrev acI:Oper:=⟨some 0,.assign (.tmp 187),4,e9,#[aj 40,ao 39,al 0,al 1,al 2,al 3,al 4,al 5,al 6,al 7,al 8,al 9,al 10,al 11,al 12,al 13,al 14,al 15,al 16,al 17,al 18,al 19,al 20,al 21,al 22,al 23,al 24,al 25,al 26,al 27,al 28,al 29,al 30,al 31,al 32,al 33,al 34,al 35,al 36,al 37,al 38,al 39,al 40],none⟩
def acJ:Array Oper:= #[agQ,agR,agS,agT,agU,agV,agW,agX,agY,agZ,aca,acb,acd,ace,acf,acg,ach,aci,acj,ack,acm,acn,aco,acp,acq,acr,acs,acu,acv,acw,acx,acy,acz,acA,acB,acC,acD,acE,acF,acG,acH,acI]
section
variable {w:World} {P:Program} {f:FuncId} {args:Array Value} {b:Bool}
theorem ag0{r:PY (List (Nat×Nd))}{l:List (Nat×Nd)}(h:Calls P f args w (PM w b r))(a:b=true)(c:r=.ok l):Calls P f args w λe w'=>Below w.heap.size w w'/\∃v,e=.returned (.tuple #[v,.int .i64 0])/\lz w' w'.heap.size v (l.map Rq):=by subst a c;exact h
theorem ag1{r:PY (List (Nat×Nd))}(h:Calls P f args w (PM w b r))(a:b=true)(c:r=.rp):Calls P f args w λe w'=>Below w.heap.size w w'/\e=.returned (.tuple #[.slice none 0 0,.int .i64 7]):=by subst a c;exact h
theorem ag2{r:Option TN}{l:TN}(h:Calls P f args w (Yy w b r))(a:b=true)(c:r=some l):Calls P f args w λe w'=>Below w.heap.size w w'/\∃v,e=.returned (.tuple #[v,.int .i64 0])/\lz w' w'.heap.size v (l.map PI):=by subst a c;exact h
theorem YV{r:Um}{l:List Nd}(h:Calls P f args w (X_ w b r))(a:b=true)(c:r=.ok l):Calls P f args w λe w'=>Below w.heap.size w w'/\∃tv,e=.returned (.tuple #[tv,.int .i64 0])/\dr w' w'.heap.size tv (Fo.of l):=by subst a c;exact h
theorem ag3{m:Md}{t:Nd}{l ts:List Nd}{T:Nd}{L:Fo}(h:∀S n,vO true (kn m l []) (cC t) t=some (S,n)->JR (cC t) (some (S,n))=.ok ts->Calls P f args w λe w'=>Below w.heap.size w w'/\YI w' (.ok ts) e)(a:PA true (kn m l []) (cC t) t=.ok ts)(c:(Fo.of ts).at 0=T)(d:(Fo.of ts).drop 1=L):Calls P f args w λe w'=>Below w.heap.size w w'/\∃tv lv,e=.returned (.tuple #[tv,lv,.int .i64 0])/\cV w' w'.heap.size tv T/\dr w' w'.heap.size lv L:=by
 subst c d;unfold PA at a;cases b:vO true (kn m l []) (cC t) t with
 |none=>rw[b]at a;cases a
 |some q=>
  obtain⟨S,n⟩:=q;rw[b]at a;exact h S n b a
theorem ag4{r:Option Nat}(h:Calls P f args w (Rl w b r))(a:b=true)(c:r=some n):Calls P f args w λe w'=>Below w.heap.size w w'/\e=.returned (.tuple #[.int .i64 (n:Nat),.int .i64 7]):=by subst a c;exact h
theorem ag5{p:Pg}{l:List (List Int)}(h:Calls P f args w (Iy p w b))(a:b=true)(c:(eA p).map cX=l):Calls P f args w λe w'=>Below w.heap.size w w'/\∃v,e=.returned (.tuple #[v,.int .i64 0])/\mA w' w'.heap.size v l:=by subst a c;exact h
end
theorem ag6(w:World)(n:Int):cV w w.heap.size (.agg #[.int .i64 2,.int .i64 n,.slice none 0 0]) ⟨2,n,.nil⟩:=⟨_,rfl,gu _ _⟩
theorem sn(w:World):Calls Tryz.prog 15 #[] w λe w'=>e=.returned (.bool true)/\Below w.heap.size w w':=by
 have H:=hI (Has.start w)
 go_enter Tryz.func15,Tryz.ntmps15
 go_wp2_with fail
 refine(BK _).mono ?_;rintro e w1 ⟨v1,rfl,f,a⟩;replace H:=hI (H.o.push a (.dt _) f);clear f a
 go_wp2_with fail
 refine(jI 1 _).mono ?_;rintro e w1 ⟨v1,rfl,b,a⟩;replace H:=hI (H.o.nd a b);clear b a
 go_wp2_with fail
 refine(jI 0 _).mono ?_;rintro e w1 ⟨v1,rfl,b,a⟩;replace H:=hI (H.o.nd a b);clear b a
 go_wp2_with fail
 refine(gO _ _ _ _ _ _ (H.o.gn 1 rfl) (H.o.gn 0 rfl) lR).mono ?_;rintro e w1 ⟨v1,rfl,b,a⟩;replace H:=hI (H.o.nd a b);clear b a
 go_wp2_with fail
 refine(jI 0 _).mono ?_;rintro e w1 ⟨v1,rfl,b,a⟩;replace H:=hI (H.o.nd a b);clear b a
 go_wp2_with fail
 refine(kT _ _ _ _ (H.o.gn 0 rfl) lR).mono ?_;rintro e w1 ⟨v1,rfl,b,a⟩;replace H:=hI (H.o.nd a b);clear b a
 go_wp2_with fail
 refine(tK _).mono ?_;rintro e w1 ⟨v1,rfl,b,a⟩;replace H:=hI (H.o.nd a b);clear b a
 go_wp2_with fail
 refine(gO _ _ _ _ _ _ (H.o.gn 1 rfl) (H.o.gn 0 rfl) lR).mono ?_;rintro e w1 ⟨v1,rfl,b,a⟩;replace H:=hI (H.o.nd a b);clear b a;have c:=hI (ag0 (II j3 _ _ _ _ _ _ _ (H.o.gd 7 rfl) (H.o.gn 4 rfl) (H.o.gn 0 rfl) lR) (by decide +kernel) ab6)
 go_wp2_with fail
 refine c.o.mono ?_;rintro e w1 ⟨a,g⟩;obtain⟨i,rfl,d⟩:=g;replace H:=hI (H.o.push a (.bd _) d);clear a c d
 go_wp2_with fail
 refine(BK _).mono ?_;rintro e w1 ⟨v1,rfl,f,a⟩;replace H:=hI (H.o.push a (.dt _) f);clear f a
 go_wp2_with fail
 refine(jI 0 _).mono ?_;rintro e w1 ⟨v1,rfl,b,a⟩;replace H:=hI (H.o.nd a b);clear b a
 go_wp2_with fail
 refine(jI 0 _).mono ?_;rintro e w1 ⟨v1,rfl,b,a⟩;replace H:=hI (H.o.nd a b);clear b a
 go_wp2_with fail
 refine(kT _ _ _ _ (H.o.gn 0 rfl) lR).mono ?_;rintro e w1 ⟨v1,rfl,b,a⟩;replace H:=hI (H.o.nd a b);clear b a;have c:=hI (ag1 (II j3 _ _ _ _ _ _ _ (H.o.gd 3 rfl) (H.o.gn 2 rfl) (H.o.gn 0 rfl) lR) (by decide +kernel) PR)
 go_wp2_with fail
 refine c.o.mono ?_;rintro e w1 ⟨a,g⟩;obtain rfl:=g;replace H:=hI (H.o.step a);clear a c
 go_wp2_with fail
 refine(BK _).mono ?_;rintro e w1 ⟨v1,rfl,f,a⟩;replace H:=hI (H.o.push a (.dt _) f);clear f a
 go_wp2_with fail
 refine(jI 0 _).mono ?_;rintro e w1 ⟨v1,rfl,b,a⟩;replace H:=hI (H.o.nd a b);clear b a
 go_wp2_with fail
 refine(jI 0 _).mono ?_;rintro e w1 ⟨v1,rfl,b,a⟩;replace H:=hI (H.o.nd a b);clear b a
 go_wp2_with fail
 refine(gO _ _ _ _ _ _ (H.o.gn 1 rfl) (H.o.gn 0 rfl) lR).mono ?_;rintro e w1 ⟨v1,rfl,b,a⟩;replace H:=hI (H.o.nd a b);clear b a
 go_wp2_with fail
 refine(tK _).mono ?_;rintro e w1 ⟨v1,rfl,b,a⟩;replace H:=hI (H.o.nd a b);clear b a
 go_wp2_with fail
 refine(tK _).mono ?_;rintro e w1 ⟨v1,rfl,b,a⟩;replace H:=hI (H.o.nd a b);clear b a
 go_wp2_with fail
 refine(gO _ _ _ _ _ _ (H.o.gn 1 rfl) (H.o.gn 0 rfl) lR).mono ?_;rintro e w1 ⟨v1,rfl,b,a⟩;replace H:=hI (H.o.nd a b);clear b a;have c:=hI (ag2 (TR j3 _ _ _ _ _ _ _ (H.o.gd 6 rfl) (H.o.gn 3 rfl) (H.o.gn 0 rfl) lR) (by decide +kernel) ab7)
 go_wp2_with fail
 refine c.o.mono ?_;rintro e w1 ⟨a,g⟩;obtain⟨i,rfl,d⟩:=g;replace H:=hI (H.o.push a (.bd _) d);clear a c d
 go_wp2_with fail
 refine(yS _).mono ?_;rintro e w1 ⟨v1,rfl,a,hm⟩;replace H:=hI (H.o.push a (.md _) hm);clear hm a;have c:=hI (YV (Iz tL _ _ _ (H.o.gm 0 rfl) lR (λr g=>M9 r (List.mem_append_left _ g)) (by decide) DI.2.1 Rt rfl) rfl rfl)
 go_wp2_with fail
 refine c.o.mono ?_;rintro e w1 ⟨a,g⟩;obtain⟨i,rfl,d⟩:=g;replace H:=hI (H.o.push a (.fo _) d);clear a c d
 go_wp2_with fail
 refine(FN _).mono ?_;rintro e w1 ⟨v1,rfl,a,hm⟩;replace H:=hI (H.o.push a (.md _) hm);clear hm a;have c:=hI (YV (Iz yT _ _ _ (H.o.gm 0 rfl) lR (λr g=>M9 r (List.mem_append_right _ g)) (by decide) DI.2.2 ab8 rfl) rfl rfl)
 go_wp2_with fail
 refine c.o.mono ?_;rintro e w1 ⟨a,g⟩;obtain⟨i,rfl,d⟩:=g;replace H:=hI (H.o.push a (.fo _) d);clear a c d
 go_wp2_with fail
 refine(yS _).mono ?_;rintro e w1 ⟨v1,rfl,a,hm⟩;replace H:=hI (H.o.push a (.md _) hm);clear hm a
 go_wp2_with fail
 refine(YK 0 _).mono ?_;rintro e w1 ⟨v1,rfl,b,a⟩;obtain⟨k,d,f⟩:=id b;obtain⟨p,q,rfl⟩:=f.slice;subst d;clear f;replace H:=hI (H.o.nd a b);clear b a
 go_wp2_with fail
 refine(YK 1 _).mono ?_;rintro e w1 ⟨v1,rfl,b,a⟩;obtain⟨k,d,f⟩:=id b;obtain⟨p,q,rfl⟩:=f.slice;subst d;clear f;replace H:=hI (H.o.nd a b);clear b a;replace H:=hI (H.o.nd bR (ag6 _ 1));have j:=hI (H.o.ab_ (T:=54) (H.o.gn 0 rfl) (H.o.gn 1 rfl));have n:=H;replace H:=j;clear n j
 go_wp2_with fail
 refine(YL 3 _ _ _ _ (H.o.gf 0 rfl) lR).mono ?_;rintro e w1 ⟨v1,rfl,b,a⟩;obtain⟨k,d,f⟩:=id b;obtain⟨p,q,rfl⟩:=f.slice;subst d;clear f;replace H:=hI (H.o.nd a b);clear b a;replace H:=hI (H.o.ab_ (T:=54) (H.o.gn 4 rfl) (H.o.gn 0 rfl))
 go_wp2_with fail
 refine(YM 0 _ _ _ _ (H.o.gf 0 rfl) lR).mono ?_;rintro e w1 ⟨v1,rfl,b,a⟩;replace H:=hI (H.o.nd a b);clear b a;have c:=hI (ag3 (λ_ _ m j=>TY tL agP _ _ _ _ (H.o.gm 7 rfl) (H.o.gn 0 rfl) lR (λr g=>M9 r (List.mem_append_left _ g)) (by decide) (by decide) DI.2.1 (by decide +kernel) (by decide +kernel) Rt m j rfl rfl) ab9 (T:=Gz ti) (L:=Fo.of [Gz ti,Gz ti]) rfl rfl)
 go_wp2_with fail
 refine c.o.mono ?_;rintro e wt ⟨a,u,v,rfl,d,n⟩;replace H:=hI (H.o.push a (.nd _) d);replace H:=hI (H.o.push bR (.fo _) n);clear a d n c;obtain⟨k,d,f⟩:=id (H.o.gn 1 rfl);obtain⟨pt,o,rfl⟩:=f.slice;subst d;clear f
 go_wp2_with fail
 replace H:=hI (H.o.ajR (x:=.int .i64 (Gz ti).a) (y:=.int .i64 (Gz ti).n) (z:=.slice pt (Gz ti).k.len o) (T:=26))
 go_wp2_with fail
 refine(yS _).mono ?_;rintro e w1 ⟨v1,rfl,a,hm⟩;replace H:=hI (H.o.push a (.md _) hm);clear hm a
 go_wp2_with fail
 refine(jI 0 _).mono ?_;rintro e w1 ⟨v1,rfl,b,a⟩;replace H:=hI (H.o.nd a b);clear b a
 go_wp2_with fail
 refine(jI 1 _).mono ?_;rintro e w1 ⟨v1,rfl,b,a⟩;replace H:=hI (H.o.nd a b);clear b a
 go_wp2_with fail
 refine(jI 1 _).mono ?_;rintro e w1 ⟨v1,rfl,b,a⟩;replace H:=hI (H.o.nd a b);clear b a
 go_wp2_with fail
 refine(gO _ _ _ _ _ _ (H.o.gn 1 rfl) (H.o.gn 0 rfl) lR).mono ?_;rintro e w1 ⟨v1,rfl,b,a⟩;replace H:=hI (H.o.nd a b);clear b a
 go_wp2_with fail
 refine(gO _ _ _ _ _ _ (H.o.gn 3 rfl) (H.o.gn 0 rfl) lR).mono ?_;rintro e w1 ⟨v1,rfl,b,a⟩;obtain⟨k,d,f⟩:=id b;obtain⟨p,q,rfl⟩:=f.slice;subst d;clear f;replace H:=hI (H.o.nd a b);clear b a;replace H:=hI (H.o.ajQ (T:=26) (H.o.gn 0 rfl));have c:=hI (ag4 (PF tL _ _ _ _ _ (H.o.gm 6 rfl) (H.o.gf 0 rfl) lR (λr g=>M9 r (List.mem_append_left _ g)) (by decide) DI.2.1 (by decide +kernel) rfl) rfl YS)
 go_wp2_with fail
 refine c.o.mono ?_;rintro e w1 ⟨a,rfl⟩;replace H:=hI (H.o.step a);clear a c
 go_wp2_with fail
 refine(FN _).mono ?_;rintro e w1 ⟨v1,rfl,a,hm⟩;obtain⟨dv,cv,fv,rv,rfl,m,j,s,t⟩:=hm;replace H:=hI (H.o.step a);have c:=hI (ag5 (MH yT.prog (.agg #[cv,fv,rv]) w1 w1.heap.size ⟨_,_,_,rfl,j,s,t⟩ lR (λr g=>M9 r (List.mem_append_right _ g))) (l:=[[0,1]]) (by decide +kernel) (by rw[YT];rfl));clear a m j s t;have n:∀w:World,(Instr.field 50 (.agg #[dv,cv,fv,rv]) 1).run Tryz.prog w=.ok (.agg #[cv,fv,rv]) w:=λ_=>by kernel_rfl
 go_wp2_with fail
 refine c.o.mono ?_;rintro e w1 ⟨a,i,rfl,d⟩;replace H:=hI (H.o.push a (.gp _) d);clear a d c n
 go_wp2_with fail
 refine(tK _).mono ?_;rintro e w1 ⟨v1,rfl,b,a⟩;obtain⟨k,d,f⟩:=id b;obtain⟨p,q,rfl⟩:=f.slice;subst d;clear f;replace H:=hI (H.o.nd a b);clear b a
 go_wp2_with fail
 refine(tK _).mono ?_;rintro e w1 ⟨v1,rfl,b,a⟩;replace H:=hI (H.o.nd a b);clear b a
 go_wp2_with fail
 refine(kT _ _ _ _ (H.o.gn 0 rfl) lR).mono ?_;rintro e w1 ⟨v1,rfl,b,a⟩;obtain⟨k,d,f⟩:=id b;obtain⟨p,q,rfl⟩:=f.slice;subst d;clear f;replace H:=hI (H.o.nd a b);clear b a;replace H:=hI (H.o.bd2 (x:=0) (y:=1) (T:=69) (H.o.gn 2 rfl) (H.o.gn 0 rfl))
 go_wp2_with fail
 refine(lN (xB _ _ _ _ _ _ (H.o.gb 39 rfl) (H.o.gb 0 rfl) lR) (by decide +kernel)).mono ?_;rintro e w1 ⟨rfl,a⟩;replace H:=hI (H.o.step a);clear a
 go_wp2_with fail
 refine(tK _).mono ?_;rintro e w1 ⟨v1,rfl,b,a⟩;obtain⟨k,d,f⟩:=id b;obtain⟨p,q,rfl⟩:=f.slice;subst d;clear f;replace H:=hI (H.o.nd a b);clear b a;replace H:=hI (H.o.bd1 (x:=0) (T:=69) (H.o.gn 0 rfl))
 go_wp2_with fail
 refine(lN (xB _ _ _ _ _ _ (H.o.gb 29 rfl) (H.o.gb 0 rfl) lR) (by decide +kernel)).mono ?_;rintro e w1 ⟨rfl,a⟩;replace H:=hI (H.o.step a);clear a;replace H:=hI (H.o.gp1 (T:=3) (T':=74))
 go_wp2_with fail
 refine(lN (EE _ _ _ _ _ _ (H.o.gg 7 rfl) (H.o.gg 0 rfl) lR) (by decide +kernel)).mono ?_;rintro e w1 ⟨rfl,a⟩;replace H:=hI (H.o.step a);clear a;go_wp2;have j:=dF (H.o.go 15 rfl);refine wp_region_held_drew (S:=λV=>V.cell? ⟨wt.heap.size,0,none⟩=some (.int .i64 (Gz ti).a)/\V.cell? ⟨wt.heap.size,1,none⟩=some (.int .i64 (Gz ti).n)/\V.cell? ⟨wt.heap.size,2,none⟩=some (.slice pt (Gz ti).k.len o)) (by kernel_rfl) (j) (λhHeld=> ?_)
 change wpAnyH _ _ acJ _ _ _ _ _ _
 refine kL (λZ=>Below w1.heap.size w1 Z) (Below.ia bR) hHeld ?_;clear hHeld;rintro V n hHeld;replace H:=hI (H.o.step n);clear n j;refine qA 0 ⟨some 147,.move (.tmp 7),24,e9,#[],none⟩ hHeld ?_;refine qR 1 ⟨some 148,.call ⟨.value (.func 38),#[.const (.int .i64 0)],#[3]⟩,26,e9,#[],none⟩ λK c=> ?_;go_simp;refine(jI 0 _).mono ?_;rintro e w1 ⟨v1,rfl,b,a⟩;replace H:=hI (H.o.nd a b);clear b a;clear hHeld;refine qK c (dF (H.o.go 16 rfl)) λhHeld=> ?_;clear c K;refine qR 2 ⟨some 149,.call ⟨.value (.func 65),#[.tmp 148],#[26]⟩,26,e9,#[aj 1,ao 1],none⟩ λK c=> ?_;go_simp;refine(kT _ _ _ _ (H.o.gn 0 rfl) lR).mono ?_;rintro e w1 ⟨v1,rfl,b,a⟩;replace H:=hI (H.o.nd a b);clear b a;clear hHeld;refine qK c (dF (H.o.go 17 rfl)) λhHeld=> ?_;clear c K;refine qR 3 ⟨some 150,.call ⟨.value (.func 38),#[.const (.int .i64 0)],#[3]⟩,26,e9,#[ao 2],none⟩ λK c=> ?_;go_simp;refine(jI 0 _).mono ?_;rintro e w1 ⟨v1,rfl,b,a⟩;replace H:=hI (H.o.nd a b);clear b a;clear hHeld;refine qK c (dF (H.o.go 18 rfl)) λhHeld=> ?_;clear c K;refine qR 4 ⟨some 151,.call ⟨.value (.func 65),#[.tmp 150],#[26]⟩,26,e9,#[aj 3,ao 3],none⟩ λK c=> ?_;go_simp;refine(kT _ _ _ _ (H.o.gn 0 rfl) lR).mono ?_;rintro e w1 ⟨v1,rfl,b,a⟩;replace H:=hI (H.o.nd a b);clear b a;clear hHeld;refine qK c (dF (H.o.go 19 rfl)) λhHeld=> ?_;clear c K;refine qR 5 ⟨some 152,.call ⟨.value (.func 38),#[.const (.int .i64 0)],#[3]⟩,26,e9,#[ao 4],none⟩ λK c=> ?_;go_simp;refine(jI 0 _).mono ?_;rintro e w1 ⟨v1,rfl,b,a⟩;replace H:=hI (H.o.nd a b);clear b a;clear hHeld;refine qK c (dF (H.o.go 20 rfl)) λhHeld=> ?_;clear c K;refine qR 6 ⟨some 153,.call ⟨.value (.func 65),#[.tmp 152],#[26]⟩,26,e9,#[aj 5,ao 5],none⟩ λK c=> ?_;go_simp;refine(kT _ _ _ _ (H.o.gn 0 rfl) lR).mono ?_;rintro e w1 ⟨v1,rfl,b,a⟩;replace H:=hI (H.o.nd a b);clear b a;clear hHeld;refine qK c (dF (H.o.go 21 rfl)) λhHeld=> ?_;clear c K;refine qR 7 ⟨some 154,.call ⟨.value (.func 42),#[.tmp 151,.tmp 153],#[26,26]⟩,26,e9,#[aj 4,aj 6,ao 6],none⟩ λK c=> ?_;go_simp;refine(gO _ _ _ _ _ _ (H.o.gn 2 rfl) (H.o.gn 0 rfl) lR).mono ?_;rintro e w1 ⟨v1,rfl,b,a⟩;replace H:=hI (H.o.nd a b);clear b a;clear hHeld;refine qK c (dF (H.o.go 22 rfl)) λhHeld=> ?_;clear c K;refine qR 8 ⟨some 155,.call ⟨.value (.func 42),#[.tmp 149,.tmp 154],#[26,26]⟩,26,e9,#[aj 2,aj 7,ao 7],none⟩ λK c=> ?_;go_simp;refine(gO _ _ _ _ _ _ (H.o.gn 5 rfl) (H.o.gn 0 rfl) lR).mono ?_;rintro e w1 ⟨v1,rfl,b,a⟩;obtain⟨k,d,f⟩:=id b;obtain⟨p,q,rfl⟩:=f.slice;subst d;clear f;replace H:=hI (H.o.nd a b);clear b a;clear hHeld;refine qK c (dF (H.o.go 23 rfl)) λhHeld=> ?_;clear c K;replace H:=hI (H.o.ajQ (T:=26) (H.o.gn 0 rfl));refine qR 9 ⟨some 156,.buildSlice 24 1 #[(0,.tmp 155)],24,e9,#[aj 8],none⟩ λK c=> ?_;go_simp;clear hHeld;refine qK c (dF (H.o.go 24 rfl)) λhHeld=> ?_;clear c K;refine qR 10 ⟨some 157,.call ⟨.value (.func 32),#[.tmp 147,.tmp 156],#[24,24]⟩,4,e9,#[aj 0,aj 9,ao 8],none⟩ λK c=> ?_;go_simp;refine(lN (mX _ _ _ _ _ _ (H.o.gf 37 rfl) (H.o.gf 0 rfl) lR) (by decide +kernel)).mono ?_;rintro e w1 ⟨rfl,a⟩;replace H:=hI (H.o.step a);clear a;clear hHeld;refine qK c (dF (H.o.go 24 rfl)) λhHeld=> ?_;clear c K;refine qA 11 ⟨some 158,.move (.tmp 157),4,e9,#[aj 10,ao 10],none⟩ hHeld ?_;refine qA 12 ⟨some 159,.move (.tmp 9),24,e9,#[a6 11],some (11,true)⟩ hHeld ?_;refine qR 13 ⟨some 160,.call ⟨.value (.func 38),#[.const (.int .i64 0)],#[3]⟩,26,e9,#[ao 11,a6 11],some (11,true)⟩ λK c=> ?_;go_simp;refine(jI 0 _).mono ?_;rintro e w1 ⟨v1,rfl,b,a⟩;replace H:=hI (H.o.nd a b);clear b a;clear hHeld;refine qK c (dF (H.o.go 25 rfl)) λhHeld=> ?_;clear c K;refine qR 14 ⟨some 161,.call ⟨.value (.func 38),#[.const (.int .i64 1)],#[3]⟩,26,e9,#[ao 13,a6 11],some (11,true)⟩ λK c=> ?_;go_simp;refine(jI 1 _).mono ?_;rintro e w1 ⟨v1,rfl,b,a⟩;replace H:=hI (H.o.nd a b);clear b a;clear hHeld;refine qK c (dF (H.o.go 26 rfl)) λhHeld=> ?_;clear c K;refine qR 15 ⟨some 162,.call ⟨.value (.func 38),#[.const (.int .i64 2)],#[3]⟩,26,e9,#[ao 14,a6 11],some (11,true)⟩ λK c=> ?_;go_simp;refine(jI 2 _).mono ?_;rintro e w1 ⟨v1,rfl,b,a⟩;replace H:=hI (H.o.nd a b);clear b a;clear hHeld;refine qK c (dF (H.o.go 27 rfl)) λhHeld=> ?_;clear c K;refine qR 16 ⟨some 163,.call ⟨.value (.func 42),#[.tmp 161,.tmp 162],#[26,26]⟩,26,e9,#[aj 14,aj 15,ao 15,a6 11],some (11,true)⟩ λK c=> ?_;go_simp;refine(gO _ _ _ _ _ _ (H.o.gn 1 rfl) (H.o.gn 0 rfl) lR).mono ?_;rintro e w1 ⟨v1,rfl,b,a⟩;replace H:=hI (H.o.nd a b);clear b a;clear hHeld;refine qK c (dF (H.o.go 28 rfl)) λhHeld=> ?_;clear c K;refine qR 17 ⟨some 164,.call ⟨.value (.func 42),#[.tmp 160,.tmp 163],#[26,26]⟩,26,e9,#[aj 13,aj 16,ao 16,a6 11],some (11,true)⟩ λK c=> ?_;go_simp;refine(gO _ _ _ _ _ _ (H.o.gn 3 rfl) (H.o.gn 0 rfl) lR).mono ?_;rintro e w1 ⟨v1,rfl,b,a⟩;obtain⟨k,d,f⟩:=id b;obtain⟨p,q,rfl⟩:=f.slice;subst d;clear f;replace H:=hI (H.o.nd a b);clear b a;clear hHeld;refine qK c (dF (H.o.go 29 rfl)) λhHeld=> ?_;clear c K;refine qR 18 ⟨some 165,.call ⟨.value (.func 38),#[.const (.int .i64 1)],#[3]⟩,26,e9,#[ao 17,a6 11],some (11,true)⟩ λK c=> ?_;go_simp;refine(jI 1 _).mono ?_;rintro e w1 ⟨v1,rfl,b,a⟩;replace H:=hI (H.o.nd a b);clear b a;clear hHeld;refine qK c (dF (H.o.go 30 rfl)) λhHeld=> ?_;clear c K;refine qR 19 ⟨some 166,.call ⟨.value (.func 38),#[.const (.int .i64 0)],#[3]⟩,26,e9,#[ao 18,a6 11],some (11,true)⟩ λK c=> ?_;go_simp;refine(jI 0 _).mono ?_;rintro e w1 ⟨v1,rfl,b,a⟩;replace H:=hI (H.o.nd a b);clear b a;clear hHeld;refine qK c (dF (H.o.go 31 rfl)) λhHeld=> ?_;clear c K;refine qR 20 ⟨some 167,.call ⟨.value (.func 38),#[.const (.int .i64 2)],#[3]⟩,26,e9,#[ao 19,a6 11],some (11,true)⟩ λK c=> ?_;go_simp;refine(jI 2 _).mono ?_;rintro e w1 ⟨v1,rfl,b,a⟩;replace H:=hI (H.o.nd a b);clear b a;clear hHeld;refine qK c (dF (H.o.go 32 rfl)) λhHeld=> ?_;clear c K;refine qR 21 ⟨some 168,.call ⟨.value (.func 42),#[.tmp 166,.tmp 167],#[26,26]⟩,26,e9,#[aj 19,aj 20,ao 20,a6 11],some (11,true)⟩ λK c=> ?_;go_simp;refine(gO _ _ _ _ _ _ (H.o.gn 1 rfl) (H.o.gn 0 rfl) lR).mono ?_;rintro e w1 ⟨v1,rfl,b,a⟩;replace H:=hI (H.o.nd a b);clear b a;clear hHeld;refine qK c (dF (H.o.go 33 rfl)) λhHeld=> ?_;clear c K;refine qR 22 ⟨some 169,.call ⟨.value (.func 42),#[.tmp 165,.tmp 168],#[26,26]⟩,26,e9,#[aj 18,aj 21,ao 21,a6 11],some (11,true)⟩ λK c=> ?_;go_simp;refine(gO _ _ _ _ _ _ (H.o.gn 3 rfl) (H.o.gn 0 rfl) lR).mono ?_;rintro e w1 ⟨v1,rfl,b,a⟩;obtain⟨k,d,f⟩:=id b;obtain⟨p,q,rfl⟩:=f.slice;subst d;clear f;replace H:=hI (H.o.nd a b);clear b a;clear hHeld;refine qK c (dF (H.o.go 34 rfl)) λhHeld=> ?_;clear c K;replace H:=hI (H.o.ab_ (T:=26) (H.o.gn 5 rfl) (H.o.gn 0 rfl));refine qR 23 ⟨some 170,.buildSlice 24 2 #[(0,.tmp 164),(1,.tmp 169)],24,e9,#[aj 17,aj 22,a6 11],some (11,true)⟩ λK c=> ?_;go_simp;clear hHeld;refine qK c (dF (H.o.go 35 rfl)) λhHeld=> ?_;clear c K;refine qR 24 ⟨some 171,.call ⟨.value (.func 32),#[.tmp 159,.tmp 170],#[24,24]⟩,4,e9,#[aj 12,aj 23,ao 22,a6 11],some (11,true)⟩ λK c=> ?_;go_simp;refine(lN (mX _ _ _ _ _ _ (H.o.gf 46 rfl) (H.o.gf 0 rfl) lR) (by decide +kernel)).mono ?_;rintro e w1 ⟨rfl,a⟩;replace H:=hI (H.o.step a);clear a;clear hHeld;refine qK c (dF (H.o.go 35 rfl)) λhHeld=> ?_;clear c K;refine qA 25 ⟨some 172,.pick (.tmp 158) (.tmp 171) (.const (.bool false)),4,e9,#[aj 11,aj 24],none⟩ hHeld ?_;refine qA 26 ⟨some 173,.move (.tmp 172),4,e9,#[aj 25,ao 24],none⟩ hHeld ?_;refine qA 27 ⟨some 174,.load 26 (.tmp 11),26,e9,#[a6 26],some (26,true)⟩ hHeld ?_;refine qR 28 ⟨some 175,.call ⟨.value (.func 41),#[],#[]⟩,26,e9,#[ao 26,a6 26],some (26,true)⟩ λK c=> ?_;go_simp;refine(tK _).mono ?_;rintro e w1 ⟨v1,rfl,b,a⟩;replace H:=hI (H.o.nd a b);clear b a;clear hHeld;refine qK c (dF (H.o.go 36 rfl)) λhHeld=> ?_;clear c K;refine qR 29 ⟨some 176,.call ⟨.value (.func 65),#[.tmp 175],#[26]⟩,26,e9,#[aj 28,ao 28,a6 26],some (26,true)⟩ λK c=> ?_;go_simp;refine(kT _ _ _ _ (H.o.gn 0 rfl) lR).mono ?_;rintro e w1 ⟨v1,rfl,b,a⟩;replace H:=hI (H.o.nd a b);clear b a;clear hHeld;refine qK c (dF (H.o.go 37 rfl)) λhHeld=> ?_;clear c K;refine qR 30 ⟨some 177,.call ⟨.value (.func 31),#[.tmp 174,.tmp 176],#[26,26]⟩,4,e9,#[aj 27,aj 29,ao 29,a6 26],some (26,true)⟩ λK c=> ?_;go_simp;refine(lN (B4 _ _ _ _ _ _ (H.o.gn 39 rfl) (H.o.gn 0 rfl) lR) (by decide +kernel)).mono ?_;rintro e w1 ⟨rfl,a⟩;replace H:=hI (H.o.step a);clear a;clear hHeld;refine qK c (dF (H.o.go 37 rfl)) λhHeld=> ?_;clear c K;refine qA 31 ⟨some 178,.pick (.tmp 173) (.tmp 177) (.const (.bool false)),4,e9,#[aj 26,aj 30],none⟩ hHeld ?_;refine qA 32 ⟨some 179,.move (.tmp 178),4,e9,#[aj 31,ao 30],none⟩ hHeld ?_;refine qA 33 ⟨some 180,.move (.tmp 12),24,e9,#[a6 32],some (32,true)⟩ hHeld ?_;refine qR 34 ⟨some 181,.call ⟨.value (.func 41),#[],#[]⟩,26,e9,#[ao 32,a6 32],some (32,true)⟩ λK c=> ?_;go_simp;refine(tK _).mono ?_;rintro e w1 ⟨v1,rfl,b,a⟩;replace H:=hI (H.o.nd a b);clear b a;clear hHeld;refine qK c (dF (H.o.go 38 rfl)) λhHeld=> ?_;clear c K;refine qR 35 ⟨some 182,.call ⟨.value (.func 65),#[.tmp 181],#[26]⟩,26,e9,#[aj 34,ao 34,a6 32],some (32,true)⟩ λK c=> ?_;go_simp;refine(kT _ _ _ _ (H.o.gn 0 rfl) lR).mono ?_;rintro e w1 ⟨v1,rfl,b,a⟩;obtain⟨k,d,f⟩:=id b;obtain⟨p,q,rfl⟩:=f.slice;subst d;clear f;replace H:=hI (H.o.nd a b);clear b a;clear hHeld;refine qK c (dF (H.o.go 39 rfl)) λhHeld=> ?_;clear c K;refine qR 36 ⟨some 183,.call ⟨.value (.func 41),#[],#[]⟩,26,e9,#[ao 35,a6 32],some (32,true)⟩ λK c=> ?_;go_simp;refine(tK _).mono ?_;rintro e w1 ⟨v1,rfl,b,a⟩;replace H:=hI (H.o.nd a b);clear b a;clear hHeld;refine qK c (dF (H.o.go 40 rfl)) λhHeld=> ?_;clear c K;refine qR 37 ⟨some 184,.call ⟨.value (.func 65),#[.tmp 183],#[26]⟩,26,e9,#[aj 36,ao 36,a6 32],some (32,true)⟩ λK c=> ?_;go_simp;refine(kT _ _ _ _ (H.o.gn 0 rfl) lR).mono ?_;rintro e w1 ⟨v1,rfl,b,a⟩;obtain⟨k,d,f⟩:=id b;obtain⟨p,q,rfl⟩:=f.slice;subst d;clear f;replace H:=hI (H.o.nd a b);clear b a;clear hHeld;refine qK c (dF (H.o.go 41 rfl)) λhHeld=> ?_;clear c K;replace H:=hI (H.o.ab_ (T:=26) (H.o.gn 2 rfl) (H.o.gn 0 rfl));refine qR 38 ⟨some 185,.buildSlice 24 2 #[(0,.tmp 182),(1,.tmp 184)],24,e9,#[aj 35,aj 37,a6 32],some (32,true)⟩ λK c=> ?_;go_simp;clear hHeld;refine qK c (dF (H.o.go 42 rfl)) λhHeld=> ?_;clear c K;refine qR 39 ⟨some 186,.call ⟨.value (.func 32),#[.tmp 180,.tmp 185],#[24,24]⟩,4,e9,#[aj 33,aj 38,ao 37,a6 32],some (32,true)⟩ λK c=> ?_;go_simp;refine(lN (mX _ _ _ _ _ _ (H.o.gf 43 rfl) (H.o.gf 0 rfl) lR) (by decide +kernel)).mono ?_;rintro e w1 ⟨rfl,a⟩;replace H:=hI (H.o.step a);clear a;clear hHeld;refine qK c (dF (H.o.go 42 rfl)) λhHeld=> ?_;clear c K;refine qA 40 ⟨some 187,.pick (.tmp 179) (.tmp 186) (.const (.bool false)),4,e9,#[aj 32,aj 39],none⟩ hHeld ?_;refine qA 41 ⟨some 0,.assign (.tmp 187),4,e9,#[aj 40,ao 39,al 0,al 1,al 2,al 3,al 4,al 5,al 6,al 7,al 8,al 9,al 10,al 11,al 12,al 13,al 14,al 15,al 16,al 17,al 18,al 19,al 20,al 21,al 22,al 23,al 24,al 25,al 26,al 27,al 28,al 29,al 30,al 31,al 32,al 33,al 34,al 35,al 36,al 37,al 38,al 39,al 40],none⟩ hHeld ?_;refine wpAnyH_done (by kernel_rfl) ?_ _;clear hHeld;go_wp2;go_ret;exact⟨rfl,H.o.1⟩
end
section
open Go Go.RowKit Go.Sort
attribute [local go_sem] aT cW df
theorem TZ{m:Md}(h:jl m=true):(∀r∈m.prog.rules,nh r)/\m.bH.length<=8:=by
 unfold jl dZ ig at h;simp only[ak,decide_eq_true_eq,aK]at h;obtain⟨⟨c,_⟩,d,_⟩:=h;refine⟨λr e=> ?_,c⟩;have:=d r e;unfold jH g_ at this;simp only[ak,decide_eq_true_eq]at this;obtain⟨⟨b,f⟩,a⟩:=this;unfold kX at a;replace a:=bu a;refine⟨by omega,λi hi=> ?_,by omega⟩;cases hp:kX (r.bT.at i)with
 |false=>rw[wh (p:=kX) hi hp]at b;cases b
 |true=>
  unfold kX at hp;have:=bu hp;omega
theorem ld{b:Nat}{x y z u:Value}(h:w.heap[b]? =some (.cells #[x,y,z,u] T (0,0))):w.cell? ⟨b,0,none⟩=some x/\w.cell? ⟨b,1,none⟩=some y/\w.cell? ⟨b,2,none⟩=some z/\w.cell? ⟨b,3,none⟩=some u:=⟨by rw[cell_of_row _ _ _ _ _ _ h];rfl,by rw[cell_of_row _ _ _ _ _ _ h];rfl,by rw[cell_of_row _ _ _ _ _ _ h];rfl,by rw[cell_of_row _ _ _ _ _ _ h];rfl⟩
theorem jt{f:FuncId}{args:Array Value}{b c:Bool}(h:aH P f args w (.bool b))(a:b=c):aH P f args w (.bool c):=a ▸ h
theorem GB(ds:List fV)(t:Nd)(m:Md)(dv tv o:Value)(w:World)(p:eB w w.heap.size dv ds)(r:cV w w.heap.size tv t)(hm:jM w w.heap.size o m):aH Tryz.prog 11 #[dv,tv,o] w (.bool true):=by
 have c:Has w w [(dv,.dt ds),(tv,.nd t),(o,.md m)]:=(((Has.start w).push bR (.md m) hm).push bR (.nd t) r).push bR (.dt ds) p;obtain⟨J,dc,rfl⟩:=p.slice;obtain⟨sv,rfl,i⟩:=r;obtain⟨u,sc,rfl⟩:=i.slice;obtain⟨x,y,z,A,rfl,j,a,b,f⟩:=hm;obtain⟨ma,B,rfl⟩:=j.slice;obtain⟨C,cc,rfl⟩:=a.slice;obtain⟨D,E,rfl⟩:=b.slice;obtain⟨F,rc,rfl⟩:=f.slice;have G:=cH w (.cells #[.int .i64 t.a,.int .i64 t.n,.slice u t.k.len sc] 26) (.cells #[.slice ma m.bH.length B,.slice C m.prog.sig.cons.length cc,.slice D m.prog.sig.bj.length E,.slice F m.prog.rules.length rc] 50);have H:=hI ((c.push (v:=.agg #[]) (Below.jE _ _ _) (.ob _ _) G.1).push (v:=.agg #[]) bR (.ob _ _) G.2);clear p i j a b f G c;unfold aH
 go_enter Tryz.func11,Tryz.ntmps11
 obtain⟨c0,c1,c2⟩:=dF (H.o.go 1 rfl);obtain⟨e0,e1,e2,e3⟩:=ld (H.o.go 0 rfl);rcases Bool.eq_false_or_eq_true (dZ ds)with i|i
 rotate_left
 ·go_wp2_with fail
  refine(jt (q6 _ _ _ _ (H.o.gd 2 rfl) lR) i).mono ?_;exact amC
 go_wp2_with fail
 refine(jt (q6 _ _ _ _ (H.o.gd 2 rfl) lR) i).mono ?_;rintro e w1 ⟨rfl,hb⟩;replace H:=hI (H.o.step hb);clear hb c0 c1 c2 e0 e1 e2 e3;obtain⟨c0,c1,c2⟩:=dF (H.o.go 1 rfl);obtain⟨e0,e1,e2,e3⟩:=ld (H.o.go 0 rfl);rcases Bool.eq_false_or_eq_true (decide (t.size<=26))with j|j
 rotate_left
 ·go_wp2_with fail
  refine(jt (zX _ _ _ _ (H.o.gn 3 rfl) lR) j).mono ?_;exact amC
 go_wp2_with fail
 refine(jt (zX _ _ _ _ (H.o.gn 3 rfl) lR) j).mono ?_;rintro e w1 ⟨rfl,hb⟩;replace H:=hI (H.o.step hb);clear hb c0 c1 c2 e0 e1 e2 e3;obtain⟨c0,c1,c2⟩:=dF (H.o.go 1 rfl);obtain⟨e0,e1,e2,e3⟩:=ld (H.o.go 0 rfl);rcases Bool.eq_false_or_eq_true (jl m)with c|c
 rotate_left
 ·go_wp2_with fail
  refine(jt (pU _ _ _ _ (H.o.gm 4 rfl) lR) c).mono ?_;exact amC
 go_wp2_with fail
 refine(jt (pU _ _ _ _ (H.o.gm 4 rfl) lR) c).mono ?_;rintro e w1 ⟨rfl,hb⟩;replace H:=hI (H.o.step hb);clear hb c0 c1 c2 e0 e1 e2 e3;obtain⟨c0,c1,c2⟩:=dF (H.o.go 1 rfl);obtain⟨e0,e1,e2,e3⟩:=ld (H.o.go 0 rfl)
 go_upto_region 3 with fail
 have G:=TZ c;have a:=λd os=>Fx _ _ (Go.Sort.grow (redrawn w1 d) os) _ ((H.o.step (below_regrown w1 d os)).gd 2 rfl) lR;have f:=λd os=>pf _ _ _ _ (Go.Sort.grow (redrawn w1 d) os) _ ((H.o.step (below_regrown w1 d os)).gd 2 rfl) ((H.o.step (below_regrown w1 d os)).gn 3 rfl) lR;have g:=λd os=>lH _ _ (Go.Sort.grow (redrawn w1 d) os) _ ((H.o.step (below_regrown w1 d os)).gm 4 rfl) lR G.1 G.2;have z0:=af c0;have s:=af e0;clear G i j c;rcases Bool.eq_false_or_eq_true (iy m)with b|b
 all_goals
  rcases Bool.eq_false_or_eq_true (dg ds)with c|c
  ·rcases Bool.eq_false_or_eq_true (dB ds 20 t)with G|G
   all_goals
    simp only[c,G,b,Bool.and_true,Bool.and_false,aU,bF,if_true,if_false]at a f g;obtain⟨i,j,k,l,I,q⟩:=h_6 a f g c G b;clear a f g c G b;refine aM (by kernel_rfl) (by kernel_rfl) ?_
    repeat go_big_quiet_step ((first|(with_reducible exact aH.quiet (i.o _ _))|(with_reducible exact aH.quiet (j.o _ _))|(with_reducible exact aH.quiet (k.o _ _))))
    refine wpQuiet_nil ?_;intro V n;replace H:=hI (H.o.step n);clear n i j k z0 s c0 c1 c2 e0 e1 e2 e3;obtain⟨c0,c1,c2⟩:=dF (H.o.go 1 rfl);obtain⟨e0,e1,e2,e3⟩:=ld (H.o.go 0 rfl)
    go_wp2_with fail
    refine(jt (oQ _ _ _ _ (H.o.gd 2 rfl) lR) l.o).mono ?_;rintro e w1 ⟨rfl,hb⟩;replace H:=hI (H.o.step hb);clear hb c0 c1 c2 e0 e1 e2 e3;obtain⟨c0,c1,c2⟩:=dF (H.o.go 1 rfl);obtain⟨e0,e1,e2,e3⟩:=ld (H.o.go 0 rfl)
    go_wp2_with fail
    refine(jt (oQ _ _ _ _ (H.o.gd 2 rfl) lR) l.o).mono ?_;rintro e w1 ⟨rfl,hb⟩;replace H:=hI (H.o.step hb);clear hb c0 c1 c2 e0 e1 e2 e3;obtain⟨c0,c1,c2⟩:=dF (H.o.go 1 rfl);obtain⟨e0,e1,e2,e3⟩:=ld (H.o.go 0 rfl)
    go_wp2_with fail
    refine(jt (Ld _ _ _ _ _ _ (H.o.gd 2 rfl) (H.o.gn 3 rfl) lR) I.o).mono ?_;rintro e w1 ⟨rfl,hb⟩;replace H:=hI (H.o.step hb);clear hb c0 c1 c2 e0 e1 e2 e3;obtain⟨c0,c1,c2⟩:=dF (H.o.go 1 rfl);obtain⟨e0,e1,e2,e3⟩:=ld (H.o.go 0 rfl)
    go_wp2_with fail
    refine(jt (xz _ _ _ _ (H.o.gm 4 rfl) lR) q.o).mono ?_;rintro e w1 ⟨rfl,hb⟩;replace H:=hI (H.o.step hb);clear hb c0 c1 c2 e0 e1 e2 e3;obtain⟨c0,c1,c2⟩:=dF (H.o.go 1 rfl);obtain⟨e0,e1,e2,e3⟩:=ld (H.o.go 0 rfl)
    go_wp2_with fail
    refine(sn _).mono ?_;rintro e w1 ⟨rfl,hb⟩;replace H:=hI (H.o.step hb);clear hb c0 c1 c2 e0 e1 e2 e3;go_wp2;go_ret;exact⟨rfl,H.o.1⟩
  ·simp only[c,b,Bool.false_and,bF,if_true,if_false]at a f g;obtain⟨i,j,k,l,q⟩:=h_5 a f g c b;clear a f g c b;refine aM (by kernel_rfl) (by kernel_rfl) ?_
   repeat go_big_quiet_step ((first|(with_reducible exact aH.quiet (i.o _ _))|(with_reducible exact aH.quiet (j.o _ _))|(with_reducible exact aH.quiet (k.o _ _))))
   refine wpQuiet_nil ?_;intro V n;replace H:=hI (H.o.step n);clear n i j k z0 s c0 c1 c2 e0 e1 e2 e3;obtain⟨c0,c1,c2⟩:=dF (H.o.go 1 rfl);obtain⟨e0,e1,e2,e3⟩:=ld (H.o.go 0 rfl)
   go_wp2_with fail
   refine(jt (oQ _ _ _ _ (H.o.gd 2 rfl) lR) l.o).mono ?_;rintro e w1 ⟨rfl,hb⟩;replace H:=hI (H.o.step hb);clear hb c0 c1 c2 e0 e1 e2 e3;obtain⟨c0,c1,c2⟩:=dF (H.o.go 1 rfl);obtain⟨e0,e1,e2,e3⟩:=ld (H.o.go 0 rfl)
   go_wp2_with fail
   refine(jt (oQ _ _ _ _ (H.o.gd 2 rfl) lR) l.o).mono ?_;rintro e w1 ⟨rfl,hb⟩;replace H:=hI (H.o.step hb);clear hb c0 c1 c2 e0 e1 e2 e3;obtain⟨c0,c1,c2⟩:=dF (H.o.go 1 rfl);obtain⟨e0,e1,e2,e3⟩:=ld (H.o.go 0 rfl)
   go_wp2_with fail
   refine(jt (xz _ _ _ _ (H.o.gm 4 rfl) lR) q.o).mono ?_;exact amC
end
section
open Go Go.ChangeShapes Go.Deep Go.RowKit Go.WideShapes
section
variable {H:Type} {enc:TypeId×Value->H} {P:Program} {w:World} {held:Bool}
def Fits(P:Program)(t:TypeId)(d:DataW H):Prop:=∀n∈d.weights P t,n<=reachBytes
theorem Fits.each{ts:List TypeId}{ds:List (DataW H)}(h:∀n∈DataW.weightsEach P ts ds,n<=reachBytes){j:Nat}{t:TypeId}{d:DataW H}(a:ts[j]? =some t)(b:ds[j]? =some d):Fits P t d:=
 λn c=>h n (DataW.weights_mem_each a b n c)
theorem vS:∀{l:List (DataW H)} {d:DataW H},d∈l->∀n∈d.weights P e,n∈DataW.weightsAll P e l
 |c::r,d,b,n,a=>by
  simp only[DataW.weightsAll,aQ];rcases aE.1 b with rfl|h
  ·exact .inl a
  ·exact .inr (vS h n a)
theorem Fits.agg{t:TypeId}{fs:Array Field}{ds:List (DataW H)}(a:P.underlying t=some (.struct fs))(h:Fits P t (.agg ds)){j:Nat}{f:Field}{d:DataW H}(b:fs[j]? =some f)(c:ds[j]? =some d):Fits P f.type d:=by
 refine Fits.each (ts:=fs.toList.map (·.type)) (ds:=ds) (λn e=>h n ?_) (j:=j) ?_ c
 ·simpa [DataW.weights,a] using e
 ·simp[b]
theorem Fits.elem{t:TypeId}{ds sp:List (DataW H)}(a:P.underlying t=some (.slice e))(h:Fits P t (.slice ds sp)){d:DataW H}(b:d∈ds):Fits P e d:=λn c=>h n (by
 simp only[DataW.weights,a,aE,aQ];exact .inr (.inl (vS b n c)))
theorem Fits.len{t:TypeId}{ds sp:List (DataW H)}(a:P.underlying t=some (.slice e))(h:Fits P t (.slice ds sp))(b:0<P.bytesOf e):ds.length<=140737488355328:=by
 have c:=h ((ds.length+sp.length)*P.bytesOf e) (by simp[DataW.weights,a]);have d:ds.length*1<=(ds.length+sp.length)*P.bytesOf e:=Nat.mul_le_mul (by omega) b;unfold reachBytes at c;omega
def ik(enc:TypeId×Value->H)(P:Program)(w:World)(held:Bool)(t:TypeId)(cs:List Value)(d:DataW H):Prop:=∃m pl,DataW.trod enc P w 0 (λ_=>true) held m t cs=some (d,pl)
theorem J3{a:Addr}{cap k:Nat}(f:0<k)(g:n<=140737488355328)(hle:n<=cap)(hm:cap<=maxLen)(h:∀i,i<n->∀j,j<k->∃v,w.cell? (a.add (i*k+j))=some v):
 Row w w.heap.size k (.slice (some a) n cap) n (λi=>(w.cell? (a.add i)).getD undef):=by
 refine⟨g,some a,cap,rfl,hle,hm,λe=> ?_⟩;obtain⟨b,off,spot⟩:=a;obtain⟨v0,c⟩:=h 0 e 0 f;rw[Nat.zero_mul]at c;have d:spot=none:=by simpa [Addr.add] using World.cell?_spot c
 subst d;have l:b<w.heap.size:=by
  have:w.cell? ⟨b,off+0,none⟩=some v0:=by rw[<-add_plain];exact c
  exact af this
 refine⟨b,off,rfl,l,λi hi=> ?_⟩;have m:i/k<n:=Nat.div_lt_of_lt_mul (by rw[Nat.mul_comm];exact hi);obtain⟨v,e⟩:=h (i/k) m (i % k) (Nat.mod_lt _ f);rw[Nat.div_add_mod']at e;show w.cell? ⟨b,off+i,none⟩=some ((w.cell? ((⟨b,off,none⟩:Addr).add i)).getD undef);rw[e,<-add_plain,e];rfl
theorem acK(k:Nat)(c:Nat->Value):Row w w.heap.size k (.slice none 0 0) 0 c:=⟨aw _,none,0,rfl,lR,aw _,λh=>ay h (dy _)⟩
theorem C3{α:Type}{o k:Nat}{f:Nat->α}(h:o+k<=n):((((List.range n).map f).drop o).take k)=(List.range k).map λq=>f (o+q):=by
 refine List.ext_getElem? λi=> ?_;rcases Nat.lt_or_ge i k with hi|hi
 ·rw[List.getElem?_take_of_lt hi,List.getElem?_drop,List.getElem?_map,List.getElem?_map,dh (by omega),dh hi];rfl
 ·rw[List.getElem?_eq_none (by simp;omega),List.getElem?_eq_none (by simp;omega)]
theorem sq{t:TypeId}{d:DataW H}(o:P.underlying t=some (.slice e))(B:0<P.cellsOf e)(C:0<P.bytesOf e)(h:ik enc P w held t [v] d)(hw:Fits P t d):
 ∃(n:Nat) (c:Nat->Value),Row w w.heap.size (P.cellsOf e) v n c/\∀i,i<n->∃y:DataW H,SizeOf.sizeOf y<SizeOf.sizeOf d/\Fits P e y/\ik enc P w held e ((List.range (P.cellsOf e)).map λq=>c (i*P.cellsOf e+q)) y:=by
 obtain⟨m,pl,h⟩:=h;rcases open_slice o h with⟨r,_⟩|⟨a,len,cap,G,s,D,u,x,_,E,hm,F,z,hi⟩
 ·simp only[List.cons.injEq,and_true]at r;subst r;exact⟨0,λ_=>undef,acK _ _,λi hi=>ay hi (ax _)⟩
 ·simp only[List.cons.injEq,and_true]at x;subst x;simp only[Prod.mk.injEq]at z;obtain⟨rfl,_⟩:=z;have hlen:=hw.len o C;simp only[aW,List.length_range]at hlen;simp only[if_true]at F;have key:∀i,i<len->∃b:List Value,b.length=P.cellsOf e/\(∀j,j<P.cellsOf e->w.cell? (a.add (i*P.cellsOf e+j))=b[j]?)/\DataW.trod enc P w 0 (λ_=>true) held s e b=some (D i,u i):=λi f=>by
   obtain⟨b,hc,k⟩:=hi i (by omega);obtain⟨_,p,l⟩:=World.cells?_some hc;exact⟨b,p,λj g=>by rw[<-Go.Deep.add_add,l j g],k⟩
  refine⟨len,_,J3 B hlen E hm (λi f j g=> ?_),λi f=> ?_⟩
  ·obtain⟨b,p,l,_⟩:=key i f;exact⟨b[j],by rw[l j g,ae]⟩
  ·obtain⟨b,p,l,k⟩:=key i f;have A:D i∈(List.range len).map D:=aN.2 ⟨i,bq.2 f,rfl⟩;refine⟨D i,?_,hw.elem o A,s,u i,?_⟩
   ·have:=List.sizeOf_lt_of_mem A;simp only[DataW.slice.sizeOf_spec];omega
   ·have:b=(List.range (P.cellsOf e)).map λq=>(w.cell? (a.add (i*P.cellsOf e+q))).getD undef:=by
     refine List.ext_getElem? λj=> ?_;rcases Nat.lt_or_ge j (P.cellsOf e)with g|g
     ·rw[List.getElem?_map,dh g,<-l j g,l j g,ae (by omega)];show _=some ((w.cell? _).getD undef);rw[l j g,ae (by omega)];rfl
     ·rw[List.getElem?_eq_none (by omega),List.getElem?_eq_none (by simp;omega)]
    rw[<-this];exact k
theorem jJ{t:TypeId}{fs:Array Field}{f:Nat->Value}{d:DataW H}(i:P.underlying t=some (.struct fs))(u:P.cellsOf t=n)(a:(fs.all λf=>decide (f.offset+P.cellsOf f.type<=n))=true)(h:ik enc P w held t ((List.range n).map f) d)(hw:Fits P t d):
 ∀(j:Nat) (g:Field),fs[j]? =some g->∃y:DataW H,SizeOf.sizeOf y<SizeOf.sizeOf d/\Fits P g.type y/\ik enc P w held g.type ((List.range (P.cellsOf g.type)).map λq=>f (g.offset+q)) y:=by
 obtain⟨m,pl,h⟩:=h;obtain⟨xs,o,rfl,k,v,p,r⟩:=DataW.trod_struct i h;simp only[Prod.mk.injEq]at k;obtain⟨rfl,_⟩:=k;intro j g b;have l:=r j g b;have s:g.offset+P.cellsOf g.type<=n:=by
  rw[Array.all_eq_true]at a;obtain⟨c,e⟩:=gE b;have:=a j c;rw[e]at this;exact bu this
 have c:j<xs.length:=by rw[p];exact(gE b).1
 rw[C3 s,ae c]at l;have hm:(xs[j]).1∈xs.map (·.1):=aN.2 ⟨_,aR c,rfl⟩;refine⟨(xs[j]).1,?_,hw.agg i b (by rw[List.getElem?_map,ae c];rfl),o,(xs[j]).2,l⟩;have:=List.sizeOf_lt_of_mem hm;simp only[DataW.agg.sizeOf_spec];omega
theorem pg{t:TypeId}{k:IntKind}{d:DataW H}(b:P.underlying t=some (.int k))(h:ik enc P w held t [v] d):∃n,v=.int k n/\(Lit.int k n).wf=true:=by
 obtain⟨m,pl,h⟩:=h;obtain⟨n,a,_,c⟩:=DataW.trod_int b h;simp only[List.cons.injEq,and_true]at a;exact⟨n,a,c⟩
theorem AG{t:TypeId}{d:DataW H}(c:P.underlying t=some .string)(h:ik enc P w held t [v] d)(hw:Fits P t d):∃s:ByteArray,v=.string s/\s.size<=140737488355328:=by
 obtain⟨m,pl,h⟩:=h;obtain⟨n,a,b,_⟩:=DataW.trod_string c h;simp only[List.cons.injEq,and_true]at a;simp only[Prod.mk.injEq]at b;obtain⟨rfl,_⟩:=b;have e:=hw n.data.toList.length (by simp[DataW.weights]);unfold reachBytes at e;exact⟨n,a,by have:n.size=n.data.toList.length:=rfl;omega⟩
theorem iQ.Ca{B:Nat}:∀{F:Fo} {c:Nat->Value},(∀i,i<F.len->c (i*3)=.int .i64 (F.at i).a/\c (i*3+1)=.int .i64 (F.at i).n/\dr w B (c (i*3+2)) (F.at i).k)->iQ w B F c
 | .nil,_,_=>trivial
 | .cons a n k r,c,h=>by
  obtain⟨b,d,ck,e,f⟩:=h 0 (Nat.succ_pos _);rw[Nat.zero_mul]at b d e;refine⟨b,d,⟨ck,e,f⟩,iQ.Ca λi hi=> ?_⟩;have:=h (i+1) (Nat.succ_lt_succ hi);rw[show(i+1)*3=i*3+3 by omega,show i*3+3+1=i*3+1+3 by omega,show i*3+3+2=i*3+2+3 by omega]at this;exact this
structure tN (P:Program) (t e:TypeId):Prop where
 sl:P.underlying t=some (.slice e)
 st:∃f0 f1 f2:Field,P.underlying e=some (.struct #[f0,f1,f2])/\P.underlying f0.type=some (.int .i64)/\P.underlying f1.type=some (.int .i64)/\f2.type=t/\f0.offset=0/\f1.offset=1/\f2.offset=2/\P.cellsOf f0.type=1/\P.cellsOf f1.type=1
 ct:P.cellsOf t=1
 ce:P.cellsOf e=3
 be:0<P.bytesOf e
theorem tN.node{t:TypeId}(T:tN P t e){f:Nat->Value}{d:DataW H}(h:ik enc P w held e ((List.range 3).map f) d)(hw:Fits P e d):∃a n:Int,f 0=.int .i64 a/\f 1=.int .i64 n/\∃y:DataW H,SizeOf.sizeOf y<SizeOf.sizeOf d/\Fits P t y/\ik enc P w held t [f 2] y:=by
 obtain⟨f0,f1,f2,k,l,m,b,o,p,q,c0,c1⟩:=T.st;have c:=jJ (f:=f) k T.ce (by
  rw[Array.all_eq_true];intro i hi
  match i,hi with
  |0,_=>exact aI (by show f0.offset+P.cellsOf f0.type<=3;omega)
  |1,_=>exact aI (by show f1.offset+P.cellsOf f1.type<=3;omega)
  |2,_=>exact aI (by show f2.offset+P.cellsOf f2.type<=3;rw[b,T.ct];omega)
  |i+3,h=>exact ay h (by simp)) h hw
 obtain⟨x,_,_,g⟩:=c 0 f0 rfl;obtain⟨z,_,_,r1⟩:=c 1 f1 rfl;obtain⟨r,z2,j,r2⟩:=c 2 f2 rfl;rw[c0,o]at g;rw[c1,p]at r1;rw[b,T.ct,q]at r2;rw[b]at j;obtain⟨a,s,_⟩:=pg (v:=f 0) l g;obtain⟨n,u,_⟩:=pg (v:=f 1) m r1;exact⟨a,n,s,u,r,z2,j,r2⟩
theorem tN.row{t:TypeId}(T:tN P t e):∀(z:Nat) {v:Value} {d:DataW H},SizeOf.sizeOf d<=z->ik enc P w held t [v] d->Fits P t d->∃F:Fo,dr w w.heap.size v F:=by
 intro z
 induction z with
 |zero=>
  intro v d j;cases d<;>simp at j
 |succ z l=>
  intro v d j h hw;obtain⟨n,c,k,hc⟩:=sq T.sl (by rw[T.ce];omega) T.be h hw;rw[T.ce]at k hc;obtain⟨f,o⟩:=choose_lt (α:=Nd) (p:=λi t=>c (i*3)=.int .i64 t.a/\c (i*3+1)=.int .i64 t.n/\dr w w.heap.size (c (i*3+2)) t.k) (λi hi=>by
   obtain⟨y,hy,r,b⟩:=hc i hi;obtain⟨a,m,s,hm,A,u,g,x⟩:=T.node (f:=λq=>c (i*3+q)) b r;obtain⟨F,hF⟩:=l (by omega) x g;exact⟨⟨a,m,F⟩,s,hm,hF⟩)
  have b:(Fo.of ((List.range n).map f)).len=n:=by rw[<-Fo.jg,Fo.lF,aW,List.length_range]
  refine⟨Fo.of ((List.range n).map f),c,by rw[b];exact k,iQ.Ca λi hi=> ?_⟩;rw[b]at hi;rw[show(Fo.of ((List.range n).map f)).at i=f i by rw[Fo.v7,Fo.lF];simp[hi]];exact o i hi
theorem tN.arg{t:TypeId}(T:tN P t e){f:Nat->Value}{d:DataW H}(h:ik enc P w held e ((List.range 3).map f) d)(hw:Fits P e d):∃t:Nd,cV w w.heap.size (.agg #[f 0,f 1,f 2]) t:=by
 obtain⟨a,n,b,c,y,_,g,i⟩:=T.node h hw;obtain⟨F,hF⟩:=T.row _ lR i g;exact⟨⟨a,n,F⟩,f 2,by rw[b,c],hF⟩
end
section
variable {H:Type} {enc:TypeId×Value->H} {w:World} {held:Bool}
theorem Tryz.adr:tN Tryz.prog 24 26:=⟨Tryz.underlying24,⟨_,_,_,Tryz.underlying26,by kernel_rfl,by kernel_rfl,rfl,rfl,rfl,rfl,by kernel_rfl,by kernel_rfl⟩,by kernel_rfl,by kernel_rfl,by decide +kernel⟩
theorem Tryz.ads:tN Tryz.prog 52 54:=⟨Tryz.underlying52,⟨_,_,_,Tryz.underlying54,by kernel_rfl,by kernel_rfl,rfl,rfl,rfl,rfl,by kernel_rfl,by kernel_rfl⟩,by kernel_rfl,by kernel_rfl,by decide +kernel⟩
end
section
variable {H:Type} {enc:TypeId×Value->H} {w:World} {held:Bool}
theorem Tryz.acL:Tryz.prog.cellsOf 3=1:=by kernel_rfl
theorem Tryz.ajU:Tryz.prog.cellsOf 9=1:=by kernel_rfl
theorem Tryz.cTm:Tryz.prog.cellsOf 54=3:=by kernel_rfl
theorem Tryz.alw:Tryz.prog.cellsOf 184=1:=by kernel_rfl
theorem Tryz.alx:Tryz.prog.cellsOf 52=1:=by kernel_rfl
theorem Tryz.ajV:Tryz.prog.cellsOf 24=1:=by kernel_rfl
theorem Tryz.cNm:Tryz.prog.cellsOf 163=2:=by kernel_rfl
theorem Tryz.ajW:Tryz.prog.cellsOf 37=1:=by kernel_rfl
theorem Tryz.cDt:Tryz.prog.cellsOf 186=3:=by kernel_rfl
theorem Tryz.aly:Tryz.prog.cellsOf 22=1:=by kernel_rfl
theorem Tryz.cRu:Tryz.prog.cellsOf 139=6:=by kernel_rfl
theorem Tryz.alz:Tryz.prog.cellsOf 40=1:=by kernel_rfl
theorem Tryz.cSg:Tryz.prog.cellsOf 39=2:=by kernel_rfl
theorem Tryz.cPg:Tryz.prog.cellsOf 42=3:=by kernel_rfl
theorem Tryz.cMd:Tryz.prog.cellsOf 50=4:=by kernel_rfl
theorem one_cell{t:TypeId}{f:Nat->Value}{o:Nat}{y:DataW H}(h:ik enc P w held t ((List.range (P.cellsOf t)).map λq=>f (o+q)) y)(hc:P.cellsOf t=1):ik enc P w held t [f o] y:=by
 rw[hc]at h;exact h
theorem J4{t:TypeId}{f:Nat->Value}{o:Nat}{y:DataW H}(h:ik enc P w held t ((List.range (P.cellsOf t)).map λq=>f (o+q)) y)(hc:P.cellsOf t=n):ik enc P w held t ((List.range n).map λq=>f (o+q)) y:=by
 rw[hc]at h;exact h
theorem YW{d:DataW H}(h:ik enc Tryz.prog w held 37 [v] d)(hw:Fits Tryz.prog 37 d):∃l,gD w w.heap.size v l:=by
 obtain⟨n,c,hr,hc⟩:=sq Tryz.underlying37 (by rw[Tryz.cNm];decide) (by decide +kernel) h hw;rw[Tryz.cNm]at hr hc;obtain⟨f,hf⟩:=choose_lt (α:=sr) (p:=λi z=>c (i*2)=.string z.name/\c (i*2+1)=.int .i64 z.args/\z.name.size<=140737488355328) (λi hi=>by
  obtain⟨y,_,b,hy⟩:=hc i hi;have G:=jJ (f:=λq=>c (i*2+q)) Tryz.underlying163 Tryz.cNm (by decide +kernel) hy b;obtain⟨m,_,w0,e⟩:=G 0 _ rfl;obtain⟨o,_,_,r1⟩:=G 1 _ rfl;obtain⟨s,g,j⟩:=AG Tryz.underlying9 (one_cell (f:=λq=>c (i*2+q)) e Tryz.ajU) w0;obtain⟨a,k,_⟩:=pg Tryz.underlying3 (one_cell (f:=λq=>c (i*2+q)) r1 Tryz.acL);exact⟨⟨s,a⟩,g,k,j⟩)
 have hg:∀i,i<n->bS ((List.range n).map f) i=f i:=λi hi=>by simp[bS,hi]
 exact amX
theorem ag7{d:DataW H}(h:ik enc Tryz.prog w held 184 [v] d)(hw:Fits Tryz.prog 184 d):∃l,lS w w.heap.size v l:=by
 obtain⟨n,c,hr,hc⟩:=sq Tryz.underlying184 (by rw[Tryz.ajV];decide) (by decide +kernel) h hw;rw[Tryz.ajV]at hr hc;obtain⟨f,hf⟩:=choose_lt (α:=Fo) (p:=λi z=>dr w w.heap.size (c i) z) (λi hi=>by
  obtain⟨y,_,G,hy⟩:=hc i hi;rw[Nat.mul_one]at hy;exact Tryz.adr.row _ lR (show ik enc Tryz.prog w held _ [c i] y from hy) G)
 have hg:∀i,i<n->dD ((List.range n).map f) i=f i:=λi hi=>by simp[dD,hi]
 exact amX
theorem YX{d:DataW H}(h:ik enc Tryz.prog w held 22 [v] d)(hw:Fits Tryz.prog 22 d):∃l,eB w w.heap.size v l:=by
 obtain⟨n,c,hr,hc⟩:=sq Tryz.underlying22 (by rw[Tryz.cDt];decide) (by decide +kernel) h hw;rw[Tryz.cDt]at hr hc;obtain⟨f,hf⟩:=choose_lt (α:=fV) (p:=λi z=>c (i*3)=.string z.name/\c (i*3+1)=.int .i64 z.params/\lS w w.heap.size (c (i*3+2)) z.cons/\z.name.size<=140737488355328) (λi hi=>by
  obtain⟨y,_,b,hy⟩:=hc i hi;have G:=jJ (f:=λq=>c (i*3+q)) Tryz.underlying186 Tryz.cDt (by decide +kernel) hy b;obtain⟨r,_,w0,e⟩:=G 0 _ rfl;obtain⟨t,_,_,r1⟩:=G 1 _ rfl;obtain⟨u,_,g,r2⟩:=G 2 _ rfl;obtain⟨s,j,k⟩:=AG Tryz.underlying9 (one_cell (f:=λq=>c (i*3+q)) e Tryz.ajU) w0;obtain⟨a,m,_⟩:=pg Tryz.underlying3 (one_cell (f:=λq=>c (i*3+q)) r1 Tryz.acL);obtain⟨F,o⟩:=ag7 (one_cell (f:=λq=>c (i*3+q)) r2 Tryz.alw) g;exact⟨⟨s,a,F⟩,j,m,o,k⟩)
 have hg:∀i,i<n->b8 ((List.range n).map f) i=f i:=λi hi=>by simp[b8,hi]
 exact amX
theorem ag8{d:DataW H}(h:ik enc Tryz.prog w held 40 [v] d)(hw:Fits Tryz.prog 40 d):∃l,j4 w w.heap.size v l:=by
 obtain⟨n,c,hr,hc⟩:=sq Tryz.underlying40 (by rw[Tryz.cRu];decide) (by decide +kernel) h hw;rw[Tryz.cRu]at hr hc;obtain⟨f,hf⟩:=choose_lt (α:=oN) (p:=λi z=>c (i*6)=.int .i64 z.fn/\dr w w.heap.size (c (i*6+1)) z.bT/\c (i*6+2)=.int .i64 z.rhs.a/\c (i*6+3)=.int .i64 z.rhs.n/\dr w w.heap.size (c (i*6+4)) z.rhs.k/\c (i*6+5)=.int .i64 z.vars) (λi hi=>by
  obtain⟨y,_,j,hy⟩:=hc i hi;have e:=jJ (f:=λq=>c (i*6+q)) Tryz.underlying139 Tryz.cRu (by decide +kernel) hy j;obtain⟨C,_,_,m⟩:=e 0 _ rfl;obtain⟨D,_,w1,r1⟩:=e 1 _ rfl;obtain⟨E,_,o,r2⟩:=e 2 _ rfl;obtain⟨I,_,_,r⟩:=e 3 _ rfl;obtain⟨a,s,_⟩:=pg Tryz.underlying3 (one_cell (f:=λq=>c (i*6+q)) m Tryz.acL);obtain⟨F,u⟩:=Tryz.ads.row _ lR (one_cell (f:=λq=>c (i*6+q)) r1 Tryz.alx) w1;obtain⟨t,k,G,g⟩:=Tryz.ads.arg (J4 (f:=λq=>c (i*6+q)) r2 Tryz.cTm) o;obtain⟨b,x,_⟩:=pg Tryz.underlying3 (one_cell (f:=λq=>c (i*6+q)) r Tryz.acL);injection G with G;injection G with G;injection G with A G;injection G with q1 G;injection G with B G;rw[<-B]at g;exact⟨⟨a,F,t,b⟩,s,u,A,q1,g,x⟩)
 have hg:∀i,i<n->cQ ((List.range n).map f) i=f i:=λi hi=>by simp[cQ,hi]
 exact amX
theorem ag9{f:Nat->Value}{d:DataW H}(h:ik enc Tryz.prog w held 39 ((List.range 2).map f) d)(hw:Fits Tryz.prog 39 d):∃s:Sg,gD w w.heap.size (f 0) s.cons/\gD w w.heap.size (f 1) s.bj:=by
 have c:=jJ (f:=f) Tryz.underlying39 Tryz.cSg (by decide +kernel) h hw;obtain⟨j,_,w0,e⟩:=c 0 _ rfl;obtain⟨k,_,w1,r1⟩:=c 1 _ rfl;obtain⟨a,g⟩:=YW (one_cell e Tryz.ajW) w0;obtain⟨b,i⟩:=YW (one_cell r1 Tryz.ajW) w1;exact⟨⟨a,b⟩,g,i⟩
theorem ajX{f:Nat->Value}{d:DataW H}(h:ik enc Tryz.prog w held 42 ((List.range 3).map f) d)(hw:Fits Tryz.prog 42 d):∃p:Pg,I0 w w.heap.size (.agg #[f 0,f 1,f 2]) p:=by
 have a:=jJ (f:=f) Tryz.underlying42 Tryz.cPg (by decide +kernel) h hw;obtain⟨i,_,w0,c⟩:=a 0 _ rfl;obtain⟨j,_,w1,r1⟩:=a 1 _ rfl;obtain⟨s,e,g⟩:=ag9 (J4 c Tryz.cSg) w0;obtain⟨b,hc⟩:=ag8 (one_cell r1 Tryz.alz) w1;exact⟨⟨s,b⟩,_,_,_,rfl,e,g,hc⟩
theorem ajY{f:Nat->Value}{d:DataW H}(h:ik enc Tryz.prog w held 50 ((List.range 4).map f) d)(hw:Fits Tryz.prog 50 d):∃m:Md,jM w w.heap.size (.agg #[f 0,f 1,f 2,f 3]) m:=by
 have b:=jJ (f:=f) Tryz.underlying50 Tryz.cMd (by decide +kernel) h hw;obtain⟨o,_,w0,j⟩:=b 0 _ rfl;obtain⟨q,_,w1,r1⟩:=b 1 _ rfl;obtain⟨a,k⟩:=YX (one_cell j Tryz.aly) w0;obtain⟨p,_,_,_,e,c,g,i⟩:=ajX (J4 r1 Tryz.cPg) w1;injection e with e;injection e with e;injection e with l e;injection e with q1 e;injection e with n e;rw[<-l]at c;rw[<-q1]at g;rw[<-n]at i;exact⟨⟨a,p⟩,_,_,_,_,rfl,k,c,g,i⟩
end
section
variable {H:Type} {enc:TypeId×Value->H} {w:World} {held:Bool}
theorem FO{t:TypeId}{d:DataW H}{pl:List MemPlace}(h:DataW.Trod enc P w 0 (λ_=>true) held t v d pl):ik enc P w held t v.cells.toList d:=h.elim λm hm=>⟨m,pl,hm⟩
theorem ag_{t:TypeId}(T:tN P t e){r:Reach}{b0:Nat}{d:DataW H}{pl:List MemPlace}(b:Value.okWide P w r b0 e v)(h:DataW.Trod enc P w 0 (λ_=>true) held e v d pl)(hw:Fits P e d):∃t:Nd,cV w w.heap.size v t:=by
 obtain⟨f0,f1,f2,c,_⟩:=T.st;obtain⟨cs,rfl,a⟩:=okWide_struct c b;rw[T.ce]at a;have g:=FO h;obtain⟨l⟩:=cs
 match l,a with
 |[c0,c1,c2],_=>exact T.arg (f:=λi=>[c0,c1,c2].getD i undef) g hw
theorem aha{r:Reach}{b0:Nat}{d:DataW H}{pl:List MemPlace}(b:Value.okWide Tryz.prog w r b0 50 v)(h:DataW.Trod enc Tryz.prog w 0 (λ_=>true) held 50 v d pl)(hw:Fits Tryz.prog 50 d):∃m:Md,jM w w.heap.size v m:=by
 obtain⟨cs,rfl,a⟩:=okWide_struct Tryz.underlying50 b;rw[Tryz.cMd]at a;have c:=FO h;obtain⟨l⟩:=cs
 match l,a with
 |[c0,c1,c2,c3],_=>exact ajY (f:=λi=>[c0,c1,c2,c3].getD i undef) c hw
theorem acM{r:Reach}{b0:Nat}{d:DataW H}{pl:List MemPlace}(b:Value.okWide Tryz.prog w r b0 22 v)(h:DataW.Trod enc Tryz.prog w 0 (λ_=>true) held 22 v d pl)(hw:Fits Tryz.prog 22 d):∃l,eB w w.heap.size v l:=by
 obtain⟨a,n,c,rfl⟩:=okWide_slice Tryz.underlying22 b;exact YX (FO h) hw
theorem xO(e:laidOutB P=true){W W':World}(f:Below W.heap.size W W'):∀{ts:List TypeId} {vs:List Value} {ds:List (DataW H)} {ps:List MemPlace},(ts.all λt=>P.readableRec t&&decide (t<P.types.size))=true->
 DataW.TrodAll enc P W 0 (λ_=>true) true ts vs ds ps->(∀x∈ps,x.block<W.heap.size)->DataW.TrodAll enc P W' 0 (λb=>decide (b<W.heap.size)) true ts vs ds ps
 |[],[],[],_,_,h,_=>h
 |t::ts,v::vs,d::ds,ps,a,h,g=>by
  obtain⟨p,q,i,j,rfl⟩:=h;simp only[List.all_cons,ak,decide_eq_true_eq]at a;exact⟨p,q,Below.trod e a.1.1 a.1.2 i f (λx c=>g x (List.mem_append_left _ c)),xO e f a.2 j (λx c=>g x (List.mem_append_right _ c)),rfl⟩
 |[],_::_,_,_,_,h,_=>by cases h
 |[],[],_::_,_,_,h,_=>by cases h
 |_::_,[],_,_,_,h,_=>by cases h
 |_::_,_::_,[],_,_,h,_=>by cases h
end
theorem Tryz.own:ownKnob Tryz.prog.godebug=none:=by kernel_rfl
theorem Tryz.laidOut:laidOutB Tryz.prog=true:=by kernel_rfl
theorem YY{f:FuncId}{fn:Func}{s:ChangeSpec}(i:Tryz.prog.inits.idxOf? f=none)(I:Tryz.prog.funcs[f]? =some fn)(D:s.vars=[])(k:s.plain.varTypes Tryz.prog=[])(l:fn.resultTypes= #[4])
 (m:(fn.params.toList.all λt=>Tryz.prog.readableRec t&&decide (t<Tryz.prog.types.size))=true)
 (J:∀(H:Type) (ds:List (DataW H)),ds.length=fn.params.toList.length->s.fn H (ds++[])={ results:=[.lit (.bool true)],args:=ds,vars:=[]})
 (os:Os) (started:os.Started) (H:Type) (enc:TypeId×Value->H) (a:Input)
 (o:(World.plainHolding Tryz.prog os a).variablesB Tryz.prog=true)
 (r:((World.plainHolding Tryz.prog os a).heap.toList.drop Tryz.prog.globals.size).take ((begin Tryz.prog (λ_ _=>0) default).world.heap.size-Tryz.prog.globals.size)=(begin Tryz.prog (λ_ _=>0) default).world.heap.toList.drop Tryz.prog.globals.size)
 (u:Input.okWideB Tryz.prog (World.plainHolding Tryz.prog os a) f ⟨#[],a.args,[]⟩=true)
 (w:s.preB enc Tryz.prog fn [] false (World.plainHolding Tryz.prog os a).memory a.args 8=true)
 (y:s.sizedB enc Tryz.prog fn false (World.plainHolding Tryz.prog os a).memory a.args 8=true)
 (z:∀(W:World) (base:Nat) (args:Array Value) (ds:List (DataW H)) (ps:List MemPlace),(∀(j:Nat) t v,fn.params[j]? =some t->args[j]? =some v->Value.okWide Tryz.prog W .any base t v)->
  DataW.TrodAll enc Tryz.prog W 0 (λ_=>true) true fn.params.toList args.toList ds ps->(∀n∈DataW.weightsEach Tryz.prog fn.params.toList ds,n<=reachBytes)->aH Tryz.prog f args W (.bool true)):
 ReturnsInHanded {} Tryz.checked os f .any (s.pre6 enc Tryz.prog fn [] false) (s.post enc Tryz.prog fn false true false false):=by
 refine returnsInHanded_of_change_sized (C:=Tryz.checked) Tryz.own started i I (ChangeSpec.witness6 (enc:=enc) (C:=Tryz.checked) (os:=os) false a 8 o r u w y) ?_;intro W base args ds gs before K E _ L _;have b:=E;obtain⟨p,q,A,F,rfl,M,Q⟩:=E;rw[D]at F;obtain⟨rfl,rfl⟩:=trodVars_none F;have c:(DataW.weightsEach Tryz.prog (fn.params.toList++s.plain.varTypes Tryz.prog) (ds++[])).all (·<=reachBytes)=true:=L;rw[k,bk,bk]at c;have hlen:∀{ts:List TypeId} {vs:List Value} {ds:List (DataW H)} {ps:List MemPlace},DataW.TrodAll enc Tryz.prog W 0 (λ_=>true) true ts vs ds ps->ds.length=ts.length:=by
  intro ts
  induction ts with
  |nil=>intro vs ds ps h;cases vs<;>cases ds<;>first|rfl|cases h
  |cons t ts g=>
   intro vs ds ps h;cases vs with
   |nil=>cases h
   |cons v vs=>
    cases ds with
    |nil=>cases h
    |cons d ds=>
     obtain⟨_,_,_,B,_⟩:=h;simp only[aD,g B]
 have N:=hlen A;refine(z W base args ds p K A (λn O=>by simpa using aK.1 c n O)).mono λe W' ⟨he,G⟩=> ?_;have P:∀x∈p,x.block<W.heap.size:=λx g=>b.lt x (by simp[g]);have B:=J H ds N;refine⟨_,he,ds,[],p++[],[],p,[],b,?_,?_,?_,?_,λh=>by cases h⟩
 ·rw[B,l];exact trodAll_mk1 (shut_bool Tryz.underlying4 true)
 ·rw[B];exact xO Tryz.laidOut G m A P
 ·rw[B,D];rfl
 ·exact World.keptBut_mono (λx g=>⟨g,by simpa using g⟩) (G.frame (·∈p++[]))
end
end Go.Proofs.YtnicceekibancaaGreat
