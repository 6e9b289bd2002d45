/- Ends of proofs that come more than once. -/
import Derived.Shelf.SlGeneric
import Derived.WalkKit
import Derived.WalkSpells
import Derived.WalkLawsBesides
import Derived.Lib.Hide
import Derived.Lib.QuietBelow
import Derived.BigQuiet
import Derived.Shelf.Abstract
import Derived.Shelf.Spec.TrailingZeros
import Derived.RangeFuncNested
import Derived.RangeFuncBound
import Derived.RangeFuncCalls
import Derived.RangeFuncLeaves
import Derived.OwnWalkIn
import Derived.TacticsInMore
import Derived.LoopNIn
import Derived.LoopIn
import Derived.Deep.MidRow
import Derived.Laws.EntriesVeiled
import Derived.Deep.WholeRow
import Derived.Recover
import Derived.RegionTactic
import Derived.BigRegion
import Derived.Deep.RegionHeld3
import Derived.StillTailTactics
import Derived.OrdersIn
import Derived.Laws.StructEq
import Derived.Maps.AppendAt
import Derived.Laws.OwnMore
import Derived.Laws.IdiomStrings
import Derived.Deep.Cut
import Derived.OwnWalk
import Derived.Maps.Range
import Derived.Shelf.Sort.Plain
import Derived.Ground.NamesProg
import Derived.Ground.Names2Prog
import Derived.Sort.OwnSortedInts
import Derived.Lib.OwnBridge
import Derived.Shelf.Slices.In.SortNone
import Derived.Deep.Slices
import Derived.Deep.Fields
import Derived.ChangeSame
import Derived.SizedLaws
import Derived.Lib.SmallJoins
import Derived.ProofKit
import Derived.LaidMore
import Derived.Handed
import Derived.Carry
set_option linter.all false
set_option linter.defProp false
namespace Go.Proofs.YtnicceekibancaaGreat
open Go Go.RowKit
theorem lR{n:Nat}:n≤n:=Nat.le_refl n
def Hd(p:Prop):Prop:=p
theorem hI{p:Prop}(h:p):Hd p:=h
theorem Hd.o{p:Prop}(h:Hd p):p:=h
theorem xE{α:Sort _}(e:α):∃x,x=e:=⟨e,rfl⟩
theorem h_3{p0 p1 p2:Prop}(h0:p0)(h1:p1)(h2:p2):Hd p0∧Hd p1∧Hd p2:=⟨h0,h1,h2⟩
theorem h_4{p0 p1 p2 p3:Prop}(h0:p0)(h1:p1)(h2:p2)(h3:p3):Hd p0∧Hd p1∧Hd p2∧Hd p3:=⟨h0,h1,h2,h3⟩
theorem h_5{p0 p1 p2 p3 p4:Prop}(h0:p0)(h1:p1)(h2:p2)(h3:p3)(h4:p4):Hd p0∧Hd p1∧Hd p2∧Hd p3∧Hd p4:=⟨h0,h1,h2,h3,h4⟩
theorem h_6{p0 p1 p2 p3 p4 p5:Prop}(h0:p0)(h1:p1)(h2:p2)(h3:p3)(h4:p4)(h5:p5):Hd p0∧Hd p1∧Hd p2∧Hd p3∧Hd p4∧Hd p5:=⟨h0,h1,h2,h3,h4,h5⟩
theorem h_7{p0 p1 p2 p3 p4 p5 p6:Prop}(h0:p0)(h1:p1)(h2:p2)(h3:p3)(h4:p4)(h5:p5)(h6:p6):Hd p0∧Hd p1∧Hd p2∧Hd p3∧Hd p4∧Hd p5∧Hd p6:=⟨h0,h1,h2,h3,h4,h5,h6⟩
theorem h_8{p0 p1 p2 p3 p4 p5 p6 p7:Prop}(h0:p0)(h1:p1)(h2:p2)(h3:p3)(h4:p4)(h5:p5)(h6:p6)(h7:p7):Hd p0∧Hd p1∧Hd p2∧Hd p3∧Hd p4∧Hd p5∧Hd p6∧Hd p7:=⟨h0,h1,h2,h3,h4,h5,h6,h7⟩
theorem h_9{p0 p1 p2 p3 p4 p5 p6 p7 p8:Prop}(h0:p0)(h1:p1)(h2:p2)(h3:p3)(h4:p4)(h5:p5)(h6:p6)(h7:p7)(h8:p8):Hd p0∧Hd p1∧Hd p2∧Hd p3∧Hd p4∧Hd p5∧Hd p6∧Hd p7∧Hd p8:=⟨h0,h1,h2,h3,h4,h5,h6,h7,h8⟩
theorem h_10{p0 p1 p2 p3 p4 p5 p6 p7 p8 p9:Prop}(h0:p0)(h1:p1)(h2:p2)(h3:p3)(h4:p4)(h5:p5)(h6:p6)(h7:p7)(h8:p8)(h9:p9):Hd p0∧Hd p1∧Hd p2∧Hd p3∧Hd p4∧Hd p5∧Hd p6∧Hd p7∧Hd p8∧Hd p9:=⟨h0,h1,h2,h3,h4,h5,h6,h7,h8,h9⟩
theorem h_11{p0 p1 p2 p3 p4 p5 p6 p7 p8 p9 p10:Prop}(h0:p0)(h1:p1)(h2:p2)(h3:p3)(h4:p4)(h5:p5)(h6:p6)(h7:p7)(h8:p8)(h9:p9)(h10:p10):Hd p0∧Hd p1∧Hd p2∧Hd p3∧Hd p4∧Hd p5∧Hd p6∧Hd p7∧Hd p8∧Hd p9∧Hd p10:=⟨h0,h1,h2,h3,h4,h5,h6,h7,h8,h9,h10⟩
theorem h_12{p0 p1 p2 p3 p4 p5 p6 p7 p8 p9 p10 p11:Prop}(h0:p0)(h1:p1)(h2:p2)(h3:p3)(h4:p4)(h5:p5)(h6:p6)(h7:p7)(h8:p8)(h9:p9)(h10:p10)(h11:p11):Hd p0∧Hd p1∧Hd p2∧Hd p3∧Hd p4∧Hd p5∧Hd p6∧Hd p7∧Hd p8∧Hd p9∧Hd p10∧Hd p11:=⟨h0,h1,h2,h3,h4,h5,h6,h7,h8,h9,h10,h11⟩
def ae:=@List.getElem?_eq_getElem
def ak:=@Bool.and_eq_true
def ai:=@Nat.le_trans
def au:=@Below.heap_setCell
def ax:=@Nat.not_lt_zero
def ah:=@if_neg
def aq:=@if_pos
def aw:=@Nat.zero_le
def az:=@List.length_append
def aB:=@decide_eq_false
def aA:=@World.putObj_heap_other
def aC:=@Nat.lt_of_lt_of_le
def aD:=@List.length_cons
def aI:=@decide_eq_true
def ay:=@absurd
def aJ:=@List.mem_singleton
def aG:=@List.append_assoc
def aO:=@List.mem_cons_self
def aV:=@List.take_succ_eq_append_getElem
def aS:=@List.mem_cons_of_mem
def aK:=@List.all_eq_true
def aE:=@List.mem_cons
def aF:=@List.getElem?_toArray
def aR:=@List.getElem_mem
def aP:=@Bool.eq_iff_iff
def aQ:=@List.mem_append
def bw:=@Int.toNat_natCast
def aY:=@List.length_singleton
def aN:=@List.mem_map
def aU:=@Bool.true_and
def bh:=@List.contains_iff_mem
def aZ:=@World.ownsRow_nil
def bg:=@Result.andThen_ok
def bC:=@List.mem_iff_getElem
def bp:=@List.filter_cons
def aW:=@List.length_map
def bo:=@List.getElem?_append_right
def bI:=@List.drop_eq_getElem_cons
def bu:=@of_decide_eq_true
def bk:=@List.append_nil
def bq:=@List.mem_range
def bz:=@List.map_cons
def bt:=@Nat.le_of_lt
def bA:=@List.map_append
def bM:=@List.getElem?_append_left
def bF:=@Bool.false_eq_true
def bJ:=@List.cons_append
def bK:=@Option.getD_some
def a8:=@Nat.zero_add
def bE:=@List.take_length
def bB:=@Sem.run_bind
def cL:=@List.getElem?_eq_some_iff
def bL:=@List.nil_append
def bN:=@Nat.add_assoc
def b_:=@beq_iff_eq
def FD:=@bne_iff_ne
def DT:=@List.mem_replicate
def dy:=@Nat.lt_irrefl
def gz:=@Nat.le_add_right
def dh:=@List.getElem?_range
def cD:=@Array.getElem?_eq_getElem
def cM:=@List.length_replicate
def b7:=@Bool.or_eq_true
def b5:=@Bool.eq_false_iff
def cG:=@List.getElem?_cons_succ
def cF:=@List.getElem?_cons_zero
def bG:=@List.setIfInBounds_toArray
def bV:=@List.set_cons_succ
def bU:=@List.set_cons_zero
def aL:=@Option.some.injEq
theorem gE{α:Type}{xs:Array α}{i:Nat}{a:α}(h:xs[i]? =some a):∃h:i<xs.size,xs[i]=a:=Array.getElem?_eq_some_iff.1 h
theorem bR{n:Nat}{w:World}:Below n w w:=Below.refl _ _
abbrev aj(n:Nat):Edge:=⟨n,.data⟩
abbrev al(n:Nat):Edge:=⟨n,.phase⟩
abbrev ao(n:Nat):Edge:=⟨n,.chain⟩
abbrev a6(n:Nat):Edge:=⟨n,.guard⟩
abbrev a7:= "ref.go:42"
abbrev br:= "ref.go:139"
abbrev bY:= "ref.go:165"
abbrev cl:= "prog.go:55"
abbrev cn:= "prog.go:74"
abbrev cp:= "infer.go:109"
abbrev cw:= "infer.go:111"
abbrev dj:= "infer.go:120"
abbrev dk:= "infer.go:116"
abbrev du:= "infer.go:90"
abbrev dT:= "infer.go:194"
abbrev ee:= "infer.go:207"
abbrev eh:= "check.go:70"
abbrev ei:= "infer.go:292"
abbrev ej:= "infer.go:284"
abbrev ev:= "infer.go:374"
abbrev eI:= "graph.go:206"
abbrev eJ:= "infer.go:312"
abbrev eK:= "law.go:40"
abbrev e9:= "law.go:71"
theorem amh {G:Prop}(h:G:=by
 refine qK hK (jY.o _ oU.o.gp oU.o.low) λhHeld=> ?_;clear hK K;have fG:=hI (oU.o.stores (.int .i64 (X:Nat)) (.int .i64 (Y:Nat)));have s0:=fG.o.c0;have s1:=fG.o.f0;have s2:=af s0;refine qR 10 ⟨none,.store 3 (.tmp 12) (.tmp 48),0,"graph.go:206",#[⟨8,.data⟩,⟨3,.data⟩,⟨7,.chain⟩,⟨0,.phase⟩,⟨1,.phase⟩,⟨2,.phase⟩,⟨3,.phase⟩,{ on:=4,ground:=Ground.textOnly Go.Departure.lateStores},{ on:=5,ground:=Ground.textOnly Go.Departure.lateStores},{ on:=6,ground:=Ground.textOnly Go.Departure.lateStores},{ on:=7,ground:=Ground.textOnly Go.Departure.lateStoresUnsure},⟨8,.phase⟩,⟨9,.phase⟩],none⟩ λK hK=> ?_;go_simp;obtain⟨VX,qu⟩:=xE (V4.setCell ⟨qa,0,none⟩ (.int .i64 (X:Nat)));have dE:=hI fG.o.rest;rw[<-qu]at dE;rw[<-qu];clear qu s0 s1 s2 hHeld fG;have s0:=dE.o.c1;have s1:=dE.o.f1;have s2:=af s0;refine qK hK (jY.o _ dE.o.gp dE.o.low) λhHeld=> ?_;clear hK K;refine qR 11 ⟨none,.store 3 (.tmp 13) (.tmp 52),0,"graph.go:206",#[⟨9,.data⟩,⟨7,.data⟩,⟨10,.chain⟩,⟨0,.phase⟩,⟨1,.phase⟩,⟨2,.phase⟩,⟨3,.phase⟩,⟨4,.phase⟩,⟨5,.phase⟩,⟨6,.phase⟩,⟨7,.phase⟩,⟨8,.phase⟩,⟨9,.phase⟩,⟨10,.phase⟩],none⟩ λK hK=> ?_;go_simp;obtain⟨VY,qw⟩:=xE (VX.setCell ⟨qb,0,none⟩ (.int .i64 (Y:Nat)));have fO:=hI dE.o.fin;rw[<-qw]at fO;rw[<-qw];clear qw s0 s1 s2 hHeld dE;refine qK hK (jY.o _ fO.o.gp fO.o.low) λhHeld=> ?_;clear hK K;refine wpAnyH_done (by kernel_rfl) ?_ _;clear hHeld;dsimp only[nN];refine⟨qa,qb,?_,fO.o⟩;exact rfl):G:=h
theorem ami {G:Prop}(h:G:=by
 go_wp2;rw[<-haa]at HL |-;clear haa;refine wp_region_held_drew (S:=λ_=>True) (by kernel_rfl) trivial (λhHeld=> ?_)
 change wpAnyH _ _ Qf _ _ _ _ _ _
 refine kL (λZ=>Below w.heap.size w Z) (Below.ia bR) hHeld ?_;clear hHeld;rintro V dU hHeld;have f1:(k:Int)<=(c:Int):=by omega
 have f2:(k:Int)<=(l.length:Int):=by omega
 refine qA 0 ⟨some 33,.move (.tmp 0),74,"ref.go:139",#[],none⟩ hHeld ?_;refine qA 1 ⟨some 34,.move (.tmp 5),3,"ref.go:139",#[],none⟩ hHeld ?_;refine qA 2 ⟨some 35,.slice 74 (.tmp 33) none (some (.tmp 34)) none,74,"ref.go:139",#[⟨0,.data⟩,⟨1,.data⟩],none⟩ hHeld ?_;refine qA 4 ⟨some 37,.move (.tmp 1),3,"ref.go:139",#[],none⟩ hHeld ?_;refine qA 7 ⟨some 40,.move (.tmp 0),74,"ref.go:139",#[],none⟩ hHeld ?_;refine qA 8 ⟨some 41,.move (.tmp 5),3,"ref.go:139",#[],none⟩ hHeld ?_;refine qA 9 ⟨some 42,.slice 74 (.tmp 40) (some (.tmp 41)) none none,74,"ref.go:139",#[⟨7,.data⟩,⟨8,.data⟩],none⟩ hHeld ?_;obtain⟨ad,had⟩:∃ad:Option Addr,ad=if c=k then aa else Option.map (λx=>x.add k) aa:=⟨_,rfl⟩;rw[<-had];have U_:Hd (∀Y,Below V.heap.size V Y->Row Y Y.heap.size 1 (.slice aa k c) k (λi=>.int .i64 (cN (l.take k) i))):=hI λY hY=>by
  have h:=(HL.o.below (ag dU hY lR) lR).take (k:=k) (by omega);unfold Ints at h;rw[show(l.take k).length=k by simp;omega]at h;exact Row.mono h (ag dU hY lR).size
 have Z3:Hd (∀Y,Below V.heap.size V Y->Row Y Y.heap.size 1 (.slice ad (l.length-k) (c-k)) (l.length-k) (λi=>.int .i64 (cN (l.drop k) i))):=hI λY hY=>by
  have h:=Row.mono (GY (HL.o.below (ag dU hY lR) lR) (k:=k) (by omega)) (ag dU hY lR).size;unfold sliced at h;rw[had];simpa using h
 have ud:=hI dU;obtain⟨j0,CJ,CL,CM,CN⟩:=info_parts Tryz.BZ;have GZ:(l.take k).length=k:=by simp;omega
 have Va:(l.drop k).length=l.length-k:=by simp
 have wS:=hI GZ;have RN:=hI Va;clear dU f1 f2 had GZ Va;refine wpAnyH_ready (rs:=[3,5]) (by kernel_rfl) (by simp) ?_;refine AllReadyH.cons (o:=⟨some 36,.call ⟨.builtin .append,#[.const (.slice none 0 0),.tmp 35],#[74,74]⟩,74,"ref.go:139",#[⟨2,.data⟩],none⟩) rfl (λK hK=> ?_) (AllReadyH.cons (o:=⟨some 38,.buildSlice 74 1 #[(0,.tmp 37)],74,"ref.go:139",#[⟨4,.data⟩],none⟩) rfl (λK hK=> ?_) AllReadyH.nil)
 ·rw[aq (by rfl)];refine eU _ _ 74 rfl V.heap.size 3 j0 _ 1 8 Tryz.underlying74 CJ CL CM CN rfl (by decide) (.slice none 0 0) 0 [] rfl (aZ _ _ _ _) (.slice aa k c) k _ V.heap.size rfl (U_.o V bR) (cE (l.take k)) (by rw[dJ,wS.o,Nat.mul_one]) (λj hj=>eH _ j (by rw[wS.o];omega)) (lk _) (by unfold maxLen;omega) (by omega) lR ?_;intro v1 Y1 fU dG _;have fZ:Below V.heap.size V Y1:=⟨dG.os,dG.tape,dG.output,dG.size,λk hk=>dG.block k hk (by simp[Value.ownBlock])⟩;obtain⟨U5,U6,rfl⟩:=cr fU;rw[a8]at fU |-;have jN:=hI fZ;have U7:=hI fU;clear fZ fU dG;refine qK hK (trivial) λhHeld=> ?_;clear hK K;refine qR 5 ⟨some 38,.buildSlice 74 1 #[(0,.tmp 37)],74,"ref.go:139",#[⟨4,.data⟩],none⟩ λK hK=> ?_;go_simp;obtain⟨CO,xn⟩:=qS Y1 (.cells #[.int .i64 n] 3);refine qK hK (trivial) λhHeld=> ?_;clear hK K;obtain⟨Y2,hY⟩:∃Y,Y=Y1.alloc (.cells #[.int .i64 n] 3):=⟨_,rfl⟩;rw[<-hY]at CO xn |-;have lG:=hI CO;have iK:=hI xn;clear hY CO xn;obtain⟨zP,U8,Bg⟩:=h_3 (gC U7.o (CK.below lG.o)) iK.o (ag jN.o lG.o lR);have NK:Hd (V.heap.size<=Y2.heap.size):=hI Bg.o.size;refine qR 6 ⟨some 39,.call ⟨.builtin .append,#[.tmp 36,.tmp 38],#[74,74]⟩,74,"ref.go:139",#[⟨3,.data⟩,⟨5,.data⟩,⟨3,.chain⟩],none⟩ λK hK=> ?_;rw[aq (by rfl)];refine wp_append_own Y2 _ _ 74 rfl V.heap.size 3 j0 _ 1 8 Tryz.underlying74 CJ CL CM CN rfl (by decide) (.slice U5 k U6) k ([]++cE (l.take k)) rfl zP.o ⟨Y1.heap.size,0,none⟩ 1 1 [.int .i64 n] rfl rfl ?_ ?_ (by unfold maxLen;omega) (by omega) NK.o ?_
  ·intro j u hj;rw[Addr.add_lit,a8,cell_of_row _ _ _ _ _ _ U8.o,aF];exact hj
  ·exact one_one rfl
  intro v2 Y3 gR fL _;have cP:Below V.heap.size V Y3:=Bg.o.grown fL Bg.o.size (λq hq=>by have h1:=(zP.o.lt q hq).1;have h2:V.heap.size<=V.heap.size:=lR;omega);have Ng:=fL.size;obtain⟨v2a,v2c,rfl⟩:=cr gR;have fT:=hI cP;have B0:=hI gR;have HZ3:Hd (V.heap.size<=Y3.heap.size):=hI (ai NK.o Ng);clear gR fL cP Ng;refine qK hK (trivial) λhHeld=> ?_;clear hK K;refine qR 10 ⟨some 43,.call ⟨.builtin .append,#[.tmp 39,.tmp 42],#[74,74]⟩,74,"ref.go:139",#[⟨6,.data⟩,⟨9,.data⟩,⟨6,.chain⟩],none⟩ λK hK=> ?_;rw[aq (by rfl)];refine eU _ _ 74 rfl V.heap.size 3 j0 _ 1 8 Tryz.underlying74 CJ CL CM CN rfl (by decide) (.slice v2a (k+1) v2c) (k+1) ([]++cE (l.take k)++[.int .i64 n]) rfl B0.o (.slice ad (l.length-k) (c-k)) (l.length-k) _ Y3.heap.size rfl (Z3.o Y3 fT.o) (cE (l.drop k)) (by rw[dJ,RN.o,Nat.mul_one]) (λj hj=>eH _ j (by rw[RN.o];omega)) (lk _) (by unfold maxLen;omega) (by omega) HZ3.o ?_;intro v4 Y4 oH pK _;have dV:Below V.heap.size V Y4:=fT.o.grown pK fT.o.size (λq hq=>by have h1:=(B0.o.lt q hq).1;have h2:V.heap.size<=V.heap.size:=lR;omega);have ef:Ints Y4 Y4.heap.size v4 (lr l n):=by
   rw[HV.o];unfold Ints;have e:(l.take k++[n]++l.drop k).length=k+1+(l.length-k):=by
    rw[az,az,wS.o,RN.o];rfl
   rw[e];refine eS oH (by omega) λi hi=> ?_;rw[bL,show cE (l.take k)++[Value.int .i64 n]++cE (l.drop k)=cE (l.take k++[n]++l.drop k)by simp[cE,eT]];exact eH _ i (by rw[e];omega)
  have ix:=hI ef;have oI:=hI (ag ud.o dV lR);clear oH pK dV ef;refine qK hK (trivial) λhHeld=> ?_;clear hK K;refine qR 11 ⟨some 4,.assign (.tmp 43),74,"ref.go:139",#[⟨10,.data⟩,⟨10,.chain⟩,⟨0,.phase⟩,⟨1,.phase⟩,⟨2,.phase⟩,⟨3,.phase⟩,⟨4,.phase⟩,⟨5,.phase⟩,⟨6,.phase⟩,⟨7,.phase⟩,⟨8,.phase⟩,⟨9,.phase⟩,⟨10,.phase⟩],none⟩ λK hK=> ?_;go_simp;refine qK hK (trivial) λhHeld=> ?_;clear hK K;refine wpAnyH_done (by kernel_rfl) ?_ _;clear hHeld;go_wp2;go_ret;exact⟨_,rfl,ix.o,oI.o⟩
 ·go_simp;obtain⟨CO,xn⟩:=qS V (.cells #[.int .i64 n] 3);refine qK hK (trivial) λhHeld=> ?_;clear hK K;obtain⟨Y1,hY⟩:∃Y,Y=V.alloc (.cells #[.int .i64 n] 3):=⟨_,rfl⟩;rw[<-hY]at CO xn |-;have lG:=hI CO;have iK:=hI xn;clear hY CO xn;refine qR 3 ⟨some 36,.call ⟨.builtin .append,#[.const (.slice none 0 0),.tmp 35],#[74,74]⟩,74,"ref.go:139",#[⟨2,.data⟩],none⟩ λK hK=> ?_;rw[aq (by rfl)];refine eU _ _ 74 rfl Y1.heap.size 3 j0 _ 1 8 Tryz.underlying74 CJ CL CM CN rfl (by decide) (.slice none 0 0) 0 [] rfl (aZ _ _ _ _) (.slice aa k c) k _ Y1.heap.size rfl (U_.o Y1 lG.o) (cE (l.take k)) (by rw[dJ,wS.o,Nat.mul_one]) (λj hj=>eH _ j (by rw[wS.o];omega)) (lk _) (by unfold maxLen;omega) (by omega) lR ?_;intro v1 Y2 fU dG _;have fZ:Below Y1.heap.size Y1 Y2:=⟨dG.os,dG.tape,dG.output,dG.size,λk hk=>dG.block k hk (by simp[Value.ownBlock])⟩;obtain⟨U5,U6,rfl⟩:=cr fU;rw[a8]at fU |-;have jN:=hI fZ;have U7:=hI fU;clear fZ fU dG;refine qK hK (trivial) λhHeld=> ?_;clear hK K;obtain⟨zP,U8,Bg⟩:=h_3 U7.o (cY jN.o iK.o) (ag lG.o jN.o lR);have NK:Hd (Y1.heap.size<=Y2.heap.size):=hI jN.o.size;refine qR 6 ⟨some 39,.call ⟨.builtin .append,#[.tmp 36,.tmp 38],#[74,74]⟩,74,"ref.go:139",#[⟨3,.data⟩,⟨5,.data⟩,⟨3,.chain⟩],none⟩ λK hK=> ?_;rw[aq (by rfl)];refine wp_append_own Y2 _ _ 74 rfl Y1.heap.size 3 j0 _ 1 8 Tryz.underlying74 CJ CL CM CN rfl (by decide) (.slice U5 k U6) k ([]++cE (l.take k)) rfl zP.o ⟨V.heap.size,0,none⟩ 1 1 [.int .i64 n] rfl rfl ?_ ?_ (by unfold maxLen;omega) (by omega) NK.o ?_
  ·intro j u hj;rw[Addr.add_lit,a8,cell_of_row _ _ _ _ _ _ U8.o,aF];exact hj
  ·exact one_one rfl
  intro v2 Y3 gR fL _;have cP:Below V.heap.size V Y3:=Bg.o.grown fL Bg.o.size (λq hq=>by have h1:=(zP.o.lt q hq).1;have h2:V.heap.size<=Y1.heap.size:=lG.o.size;omega);have Ng:=fL.size;obtain⟨v2a,v2c,rfl⟩:=cr gR;have fT:=hI cP;have B0:=hI gR;have HZ3:Hd (Y1.heap.size<=Y3.heap.size):=hI (ai NK.o Ng);clear gR fL cP Ng;refine qK hK (trivial) λhHeld=> ?_;clear hK K;refine qR 10 ⟨some 43,.call ⟨.builtin .append,#[.tmp 39,.tmp 42],#[74,74]⟩,74,"ref.go:139",#[⟨6,.data⟩,⟨9,.data⟩,⟨6,.chain⟩],none⟩ λK hK=> ?_;rw[aq (by rfl)];refine eU _ _ 74 rfl Y1.heap.size 3 j0 _ 1 8 Tryz.underlying74 CJ CL CM CN rfl (by decide) (.slice v2a (k+1) v2c) (k+1) ([]++cE (l.take k)++[.int .i64 n]) rfl B0.o (.slice ad (l.length-k) (c-k)) (l.length-k) _ Y3.heap.size rfl (Z3.o Y3 fT.o) (cE (l.drop k)) (by rw[dJ,RN.o,Nat.mul_one]) (λj hj=>eH _ j (by rw[RN.o];omega)) (lk _) (by unfold maxLen;omega) (by omega) HZ3.o ?_;intro v4 Y4 oH pK _;have dV:Below V.heap.size V Y4:=fT.o.grown pK fT.o.size (λq hq=>by have h1:=(B0.o.lt q hq).1;have h2:V.heap.size<=Y1.heap.size:=lG.o.size;omega);have ef:Ints Y4 Y4.heap.size v4 (lr l n):=by
   rw[HV.o];unfold Ints;have e:(l.take k++[n]++l.drop k).length=k+1+(l.length-k):=by
    rw[az,az,wS.o,RN.o];rfl
   rw[e];refine eS oH (by omega) λi hi=> ?_;rw[bL,show cE (l.take k)++[Value.int .i64 n]++cE (l.drop k)=cE (l.take k++[n]++l.drop k)by simp[cE,eT]];exact eH _ i (by rw[e];omega)
  have ix:=hI ef;have oI:=hI (ag ud.o dV lR);clear oH pK dV ef;refine qK hK (trivial) λhHeld=> ?_;clear hK K;refine qR 11 ⟨some 4,.assign (.tmp 43),74,"ref.go:139",#[⟨10,.data⟩,⟨10,.chain⟩,⟨0,.phase⟩,⟨1,.phase⟩,⟨2,.phase⟩,⟨3,.phase⟩,⟨4,.phase⟩,⟨5,.phase⟩,⟨6,.phase⟩,⟨7,.phase⟩,⟨8,.phase⟩,⟨9,.phase⟩,⟨10,.phase⟩],none⟩ λK hK=> ?_;go_simp;refine qK hK (trivial) λhHeld=> ?_;clear hK K;refine wpAnyH_done (by kernel_rfl) ?_ _;clear hHeld;go_wp2;go_ret;exact⟨_,rfl,ix.o,oI.o⟩):G:=h
theorem amj {G:Prop}(h:G:=by
 refine qK hK (jY.o _ rJ.o.gp rJ.o.low) λhHeld=> ?_;clear hK K;refine wpAnyH_ready (rs:=[7,9]) (by kernel_rfl) (by simp) ?_;refine AllReadyH.cons (o:=⟨some 52,.call ⟨.value (.func 73),#[.tmp 49,.tmp 50,.tmp 51],#[107,26,113]⟩,3,"graph.go:206",#[⟨4,.data⟩,⟨5,.data⟩,⟨6,.data⟩,⟨3,.chain⟩],none⟩) rfl (λK hK=> ?_) (AllReadyH.cons (o:=⟨some 13,.alloc 3,0,"graph.go:206",#[],none⟩) rfl (λK hK=> ?_) AllReadyH.nil)
 ·skip
  go_simp;refine(J_.o _ _ _ rJ.o).mono ?_;rintro e V3 ⟨rfl,hu,hf⟩;have lZ:=hI (rJ.o.call hu hf);clear hu hf hHeld;refine qK hK (jY.o _ lZ.o.gp lZ.o.low) λhHeld=> ?_;clear hK K;refine wpAnyH_ready (rs:=[9]) (by kernel_rfl) (by simp) ?_;refine AllReadyH.cons (o:=⟨some 13,.alloc 3,0,"graph.go:206",#[],none⟩) rfl (λK hK=> ?_) AllReadyH.nil;go_simp;obtain⟨hq,jK⟩:=lZ.o.tJ;obtain⟨qb,nI⟩:=xE V3.heap.size;obtain⟨V4,hV⟩:=xE (V3.alloc (.cells #[.int .i64 0] 3));rw[<-hV,<-nI]at jK;rw[<-hV,<-nI];have oU:=hI jK;clear jK hq hV nI hHeld;refine qK hK (jY.o _ oU.o.gp oU.o.low) λhHeld=> ?_;clear hK K;have fG:=hI (oU.o.stores (.int .i64 (X:Nat)) (.int .i64 (Y:Nat)));have s0:=fG.o.c0;have s1:=fG.o.f0;have s2:=af s0;refine qR 10 ⟨none,.store 3 (.tmp 12) (.tmp 48),0,"graph.go:206",#[⟨8,.data⟩,⟨3,.data⟩,⟨7,.chain⟩,⟨0,.phase⟩,⟨1,.phase⟩,⟨2,.phase⟩,⟨3,.phase⟩,{ on:=4,ground:=Ground.textOnly Go.Departure.lateStores},{ on:=5,ground:=Ground.textOnly Go.Departure.lateStores},{ on:=6,ground:=Ground.textOnly Go.Departure.lateStores},{ on:=7,ground:=Ground.textOnly Go.Departure.lateStoresUnsure},⟨8,.phase⟩,⟨9,.phase⟩],none⟩ λK hK=> ?_;go_simp;obtain⟨VX,qu⟩:=xE (V4.setCell ⟨qa,0,none⟩ (.int .i64 (X:Nat)));have dE:=hI fG.o.rest;rw[<-qu]at dE;rw[<-qu];clear qu s0 s1 s2 hHeld fG;have s0:=dE.o.c1;have s1:=dE.o.f1;have s2:=af s0;refine qK hK (jY.o _ dE.o.gp dE.o.low) λhHeld=> ?_;clear hK K;refine qR 11 ⟨none,.store 3 (.tmp 13) (.tmp 52),0,"graph.go:206",#[⟨9,.data⟩,⟨7,.data⟩,⟨10,.chain⟩,⟨0,.phase⟩,⟨1,.phase⟩,⟨2,.phase⟩,⟨3,.phase⟩,⟨4,.phase⟩,⟨5,.phase⟩,⟨6,.phase⟩,⟨7,.phase⟩,⟨8,.phase⟩,⟨9,.phase⟩,⟨10,.phase⟩],none⟩ λK hK=> ?_;go_simp;obtain⟨VY,qw⟩:=xE (VX.setCell ⟨qb,0,none⟩ (.int .i64 (Y:Nat)));have fO:=hI dE.o.fin;rw[<-qw]at fO;rw[<-qw];clear qw s0 s1 s2 hHeld dE;refine qK hK (jY.o _ fO.o.gp fO.o.low) λhHeld=> ?_;clear hK K;refine wpAnyH_done (by kernel_rfl) ?_ _;clear hHeld;dsimp only[nN];refine⟨qa,qb,?_,fO.o⟩;exact rfl
 ·skip
  go_simp;obtain⟨hq,jK⟩:=rJ.o.tJ;obtain⟨qb,nI⟩:=xE V2.heap.size;obtain⟨V3,hV⟩:=xE (V2.alloc (.cells #[.int .i64 0] 3));rw[<-hV,<-nI]at jK;rw[<-hV,<-nI];have lZ:=hI jK;clear jK hq hV nI hHeld;refine qK hK (jY.o _ lZ.o.gp lZ.o.low) λhHeld=> ?_;clear hK K;refine wpAnyH_ready (rs:=[7]) (by kernel_rfl) (by simp) ?_;refine AllReadyH.cons (o:=⟨some 52,.call ⟨.value (.func 73),#[.tmp 49,.tmp 50,.tmp 51],#[107,26,113]⟩,3,"graph.go:206",#[⟨4,.data⟩,⟨5,.data⟩,⟨6,.data⟩,⟨3,.chain⟩],none⟩) rfl (λK hK=> ?_) AllReadyH.nil;go_simp;refine(J_.o _ _ _ lZ.o).mono ?_;rintro e V4 ⟨rfl,hu,hf⟩;have oU:=hI (lZ.o.call hu hf);clear hu hf hHeld;refine qK hK (jY.o _ oU.o.gp oU.o.low) λhHeld=> ?_;clear hK K;have fG:=hI (oU.o.stores (.int .i64 (X:Nat)) (.int .i64 (Y:Nat)));have s0:=fG.o.c0;have s1:=fG.o.f0;have s2:=af s0;refine qR 10 ⟨none,.store 3 (.tmp 12) (.tmp 48),0,"graph.go:206",#[⟨8,.data⟩,⟨3,.data⟩,⟨7,.chain⟩,⟨0,.phase⟩,⟨1,.phase⟩,⟨2,.phase⟩,⟨3,.phase⟩,{ on:=4,ground:=Ground.textOnly Go.Departure.lateStores},{ on:=5,ground:=Ground.textOnly Go.Departure.lateStores},{ on:=6,ground:=Ground.textOnly Go.Departure.lateStores},{ on:=7,ground:=Ground.textOnly Go.Departure.lateStoresUnsure},⟨8,.phase⟩,⟨9,.phase⟩],none⟩ λK hK=> ?_;go_simp;obtain⟨VX,qu⟩:=xE (V4.setCell ⟨qa,0,none⟩ (.int .i64 (X:Nat)));have dE:=hI fG.o.rest;rw[<-qu]at dE;rw[<-qu];clear qu s0 s1 s2 hHeld fG;have s0:=dE.o.c1;have s1:=dE.o.f1;have s2:=af s0;refine qK hK (jY.o _ dE.o.gp dE.o.low) λhHeld=> ?_;clear hK K;refine qR 11 ⟨none,.store 3 (.tmp 13) (.tmp 52),0,"graph.go:206",#[⟨9,.data⟩,⟨7,.data⟩,⟨10,.chain⟩,⟨0,.phase⟩,⟨1,.phase⟩,⟨2,.phase⟩,⟨3,.phase⟩,⟨4,.phase⟩,⟨5,.phase⟩,⟨6,.phase⟩,⟨7,.phase⟩,⟨8,.phase⟩,⟨9,.phase⟩,⟨10,.phase⟩],none⟩ λK hK=> ?_;go_simp;obtain⟨VY,qw⟩:=xE (VX.setCell ⟨qb,0,none⟩ (.int .i64 (Y:Nat)));have fO:=hI dE.o.fin;rw[<-qw]at fO;rw[<-qw];clear qw s0 s1 s2 hHeld dE;refine qK hK (jY.o _ fO.o.gp fO.o.low) λhHeld=> ?_;clear hK K;refine wpAnyH_done (by kernel_rfl) ?_ _;clear hHeld;dsimp only[nN];refine⟨qa,qb,?_,fO.o⟩;exact rfl):G:=h
theorem amk {G:Prop}(h:G:=by
 refine qK hK (jY.o _ rJ.o.gp rJ.o.low) λhHeld=> ?_;clear hK K;refine wpAnyH_ready (rs:=[7,8]) (by kernel_rfl) (by simp) ?_;refine AllReadyH.cons (o:=⟨some 52,.call ⟨.value (.func 73),#[.tmp 49,.tmp 50,.tmp 51],#[107,26,113]⟩,3,"graph.go:206",#[⟨4,.data⟩,⟨5,.data⟩,⟨6,.data⟩,⟨3,.chain⟩],none⟩) rfl (λK hK=> ?_) (AllReadyH.cons (o:=⟨some 12,.alloc 3,0,"graph.go:206",#[],none⟩) rfl (λK hK=> ?_) AllReadyH.nil)
 ·skip
  go_simp;refine(J_.o _ _ _ rJ.o).mono ?_;rintro e V3 ⟨rfl,hu,hf⟩;have lZ:=hI (rJ.o.call hu hf);clear hu hf hHeld;refine qK hK (jY.o _ lZ.o.gp lZ.o.low) λhHeld=> ?_;clear hK K;refine wpAnyH_ready (rs:=[8]) (by kernel_rfl) (by simp) ?_;refine AllReadyH.cons (o:=⟨some 12,.alloc 3,0,"graph.go:206",#[],none⟩) rfl (λK hK=> ?_) AllReadyH.nil;go_simp;obtain⟨hq,jK⟩:=lZ.o.tI;obtain⟨qa,tO⟩:=xE V3.heap.size;obtain⟨V4,hV⟩:=xE (V3.alloc (.cells #[.int .i64 0] 3));rw[<-hV,<-tO]at jK;rw[<-hV,<-tO];have oU:=hI jK;clear jK hq hV tO hHeld;refine qK hK (jY.o _ oU.o.gp oU.o.low) λhHeld=> ?_;clear hK K;have fG:=hI (oU.o.stores (.int .i64 (X:Nat)) (.int .i64 (Y:Nat)));have s0:=fG.o.c0;have s1:=fG.o.f0;have s2:=af s0;refine qR 10 ⟨none,.store 3 (.tmp 12) (.tmp 48),0,"graph.go:206",#[⟨8,.data⟩,⟨3,.data⟩,⟨7,.chain⟩,⟨0,.phase⟩,⟨1,.phase⟩,⟨2,.phase⟩,⟨3,.phase⟩,{ on:=4,ground:=Ground.textOnly Go.Departure.lateStores},{ on:=5,ground:=Ground.textOnly Go.Departure.lateStores},{ on:=6,ground:=Ground.textOnly Go.Departure.lateStores},{ on:=7,ground:=Ground.textOnly Go.Departure.lateStoresUnsure},⟨8,.phase⟩,⟨9,.phase⟩],none⟩ λK hK=> ?_;go_simp;obtain⟨VX,qu⟩:=xE (V4.setCell ⟨qa,0,none⟩ (.int .i64 (X:Nat)));have dE:=hI fG.o.rest;rw[<-qu]at dE;rw[<-qu];clear qu s0 s1 s2 hHeld fG;have s0:=dE.o.c1;have s1:=dE.o.f1;have s2:=af s0;refine qK hK (jY.o _ dE.o.gp dE.o.low) λhHeld=> ?_;clear hK K;refine qR 11 ⟨none,.store 3 (.tmp 13) (.tmp 52),0,"graph.go:206",#[⟨9,.data⟩,⟨7,.data⟩,⟨10,.chain⟩,⟨0,.phase⟩,⟨1,.phase⟩,⟨2,.phase⟩,⟨3,.phase⟩,⟨4,.phase⟩,⟨5,.phase⟩,⟨6,.phase⟩,⟨7,.phase⟩,⟨8,.phase⟩,⟨9,.phase⟩,⟨10,.phase⟩],none⟩ λK hK=> ?_;go_simp;obtain⟨VY,qw⟩:=xE (VX.setCell ⟨qb,0,none⟩ (.int .i64 (Y:Nat)));have fO:=hI dE.o.fin;rw[<-qw]at fO;rw[<-qw];clear qw s0 s1 s2 hHeld dE;refine qK hK (jY.o _ fO.o.gp fO.o.low) λhHeld=> ?_;clear hK K;refine wpAnyH_done (by kernel_rfl) ?_ _;clear hHeld;dsimp only[nN];refine⟨qa,qb,?_,fO.o⟩;exact rfl
 ·skip
  go_simp;obtain⟨hq,jK⟩:=rJ.o.tI;obtain⟨qa,tO⟩:=xE V2.heap.size;obtain⟨V3,hV⟩:=xE (V2.alloc (.cells #[.int .i64 0] 3));rw[<-hV,<-tO]at jK;rw[<-hV,<-tO];have lZ:=hI jK;clear jK hq hV tO hHeld;refine qK hK (jY.o _ lZ.o.gp lZ.o.low) λhHeld=> ?_;clear hK K;refine wpAnyH_ready (rs:=[7]) (by kernel_rfl) (by simp) ?_;refine AllReadyH.cons (o:=⟨some 52,.call ⟨.value (.func 73),#[.tmp 49,.tmp 50,.tmp 51],#[107,26,113]⟩,3,"graph.go:206",#[⟨4,.data⟩,⟨5,.data⟩,⟨6,.data⟩,⟨3,.chain⟩],none⟩) rfl (λK hK=> ?_) AllReadyH.nil;go_simp;refine(J_.o _ _ _ lZ.o).mono ?_;rintro e V4 ⟨rfl,hu,hf⟩;have oU:=hI (lZ.o.call hu hf);clear hu hf hHeld;refine qK hK (jY.o _ oU.o.gp oU.o.low) λhHeld=> ?_;clear hK K;have fG:=hI (oU.o.stores (.int .i64 (X:Nat)) (.int .i64 (Y:Nat)));have s0:=fG.o.c0;have s1:=fG.o.f0;have s2:=af s0;refine qR 10 ⟨none,.store 3 (.tmp 12) (.tmp 48),0,"graph.go:206",#[⟨8,.data⟩,⟨3,.data⟩,⟨7,.chain⟩,⟨0,.phase⟩,⟨1,.phase⟩,⟨2,.phase⟩,⟨3,.phase⟩,{ on:=4,ground:=Ground.textOnly Go.Departure.lateStores},{ on:=5,ground:=Ground.textOnly Go.Departure.lateStores},{ on:=6,ground:=Ground.textOnly Go.Departure.lateStores},{ on:=7,ground:=Ground.textOnly Go.Departure.lateStoresUnsure},⟨8,.phase⟩,⟨9,.phase⟩],none⟩ λK hK=> ?_;go_simp;obtain⟨VX,qu⟩:=xE (V4.setCell ⟨qa,0,none⟩ (.int .i64 (X:Nat)));have dE:=hI fG.o.rest;rw[<-qu]at dE;rw[<-qu];clear qu s0 s1 s2 hHeld fG;have s0:=dE.o.c1;have s1:=dE.o.f1;have s2:=af s0;refine qK hK (jY.o _ dE.o.gp dE.o.low) λhHeld=> ?_;clear hK K;refine qR 11 ⟨none,.store 3 (.tmp 13) (.tmp 52),0,"graph.go:206",#[⟨9,.data⟩,⟨7,.data⟩,⟨10,.chain⟩,⟨0,.phase⟩,⟨1,.phase⟩,⟨2,.phase⟩,⟨3,.phase⟩,⟨4,.phase⟩,⟨5,.phase⟩,⟨6,.phase⟩,⟨7,.phase⟩,⟨8,.phase⟩,⟨9,.phase⟩,⟨10,.phase⟩],none⟩ λK hK=> ?_;go_simp;obtain⟨VY,qw⟩:=xE (VX.setCell ⟨qb,0,none⟩ (.int .i64 (Y:Nat)));have fO:=hI dE.o.fin;rw[<-qw]at fO;rw[<-qw];clear qw s0 s1 s2 hHeld dE;refine qK hK (jY.o _ fO.o.gp fO.o.low) λhHeld=> ?_;clear hK K;refine wpAnyH_done (by kernel_rfl) ?_ _;clear hHeld;dsimp only[nN];refine⟨qa,qb,?_,fO.o⟩;exact rfl):G:=h
theorem aml {G:Prop}(h:G:=by
 clear fS h8
 go_upto_region 10 with fail
 refine eR (λY=>Fix (λq=>q=wr.heap.size+1) V Y/\fE Y (wr.heap.size+1) (λx=>Dq (k.at j) x&& !((a:Int)==8&&j==1&&x==n))) ⟨EI.o,iV.o⟩ ?_;rintro W4 ⟨f4,s4⟩;obtain⟨M,hM,Ou,Zs,Ui⟩:=s4.list;obtain⟨o4,eo4,Zt⟩:=um.start (P:=Tryz.prog) (T:=250) Tryz.underlying250 hM Ou;have dV:=Below.cA W4 o4;have Cf:Fix (λq=>q=wr.heap.size+1) wr W4:=(Fix.cB qW.o).trans f4;have LQ:wr.heap.size+2<=W4.heap.size:=by have:=f4.size;have:=HVS.o;omega
 have E7:mb<wr.heap.size:=by have:=Zo.o;have:=HF.o.size;omega
 have Bc:fE (W4.alloc o4) mb S':=(Zr.o.same λo ho=>(Cf.block mb E7 (by omega)).trans ho).below dV;have LR:(W4.alloc o4).heap[w.heap.size]? =some (.cells #[.int .i64 (a),.int .i64 n,.slice (some ⟨b,off,none⟩) k.len kc] 54 (0,0)):=bQ ((Cf.block _ zd (by omega)).trans Nn.o) dV (by omega);have sW:Fix (λq=>q=mb) w (W4.alloc o4):=⟨dV.os.trans (Cf.os.trans HF.o.os),dV.tape.trans (Cf.tape.trans HF.o.tape),dV.output.trans (Cf.output.trans HF.o.output),by have:=HF.o.size;have:=dV.size;omega,λq h1 h2=>(dV.block q (by have:=HF.o.size;omega)).trans ((Cf.block q (by have:=HF.o.size;omega) (by have:=HF.o.size;omega)).trans (HF.o.block q h1 h2))⟩;obtain⟨HR4,HSM,Hv,WG,HMK,Oy⟩:=h_6 Zt Bc sW LR Ui Zs;have oJ:Hd (wr.heap.size+2<=W4.heap.size/\mb<wr.heap.size/\w.heap.size<wr.heap.size):=hI ⟨LQ,E7,zd⟩;clear f4 s4 hM Ou Zs Ui dV Cf LQ E7 Bc LR sW Zt;go_wp2;clear eo4;obtain⟨wo,E8⟩:=xE wr;subst E8
 go_loopw [7] (λ_ wi=>∃done,um wi (wo.heap.size+1) W4.heap.size M done/\fE wi mb (λx=>S' x||done.contains x)/\Fix (λq=>q=mb\/q=W4.heap.size) (W4.alloc o4) wi/\∀y∈done,y∈M.map (·.1)) (λ_ wi=>wi.rangeLeft (wo.heap.size+1) W4.heap.size)
 case atStart=>exact⟨[],HR4.o,HSM.o.congr λx=>by simp,Fix.refl _ _,λy hy=>by cases hy⟩
 case round=>
  obtain⟨done,AS,Jo,kg,CY⟩:=hrel;have Uj:=hI CY;have E9:wr.heap[w.heap.size]? =some (.cells #[.int .i64 (a),.int .i64 n,.slice (some ⟨b,off,none⟩) k.len kc] 54 (0,0)):=(kg.block _ (by have:=oJ.o;simp;omega) (by have:=oJ.o;omega)).trans WG.o;obtain⟨WH,qD,HSI⟩:=h_3 E9 kg Jo;rcases AS.next (P:=Tryz.prog) 0 with⟨bW,Af⟩|⟨key,ad_,w7,oz,yf,Af,Oz,Bw,hz7,E_,aea⟩
  ·have dK:=hI bW;clear AS Jo kg CY E9 bW;go_wp2
   go_roundw
   case rel=>
    refine⟨j+1,λx=>S' x||done.contains x,dL.o,by go_num,?_,WH.o,HSI.o,λx=> ?_⟩
    ·exact⟨qD.o.os.trans Hv.o.os,qD.o.tape.trans Hv.o.tape,qD.o.output.trans Hv.o.output,by have:=qD.o.size;have:=Hv.o.size;omega,λq h1 h2=>(qD.o.block q (by have:=Hv.o.size;omega) (by have:=oJ.o;omega)).trans (Hv.o.block q h1 h2)⟩
    ·rw[HSE.o x,E6 dL.o];have e1:done.contains x=(Dq (k.at j) x&& !((a:Int)==8&&j==1&&x==n)):=by
      rw[aP,bh,<-HMK.o x];constructor
      ·exact Uj.o x
      ·intro hx;obtain⟨y,hy,rfl⟩:=aN.1 hx;exact dK.o y hy
     show _=((S' x||done.contains x)||_);rw[e1,Bool.or_assoc]
   case measure=>have:=dL.o;simp[intOf];omega
  ·obtain rfl:=Oy.o _ oz;have WI:fE w7 mb (λx=>S' x||done.contains x):=Jo.same λo ho=>(Bw.block mb (gE ho).1 (λe=>by cases e;have:=oJ.o;omega)).trans ho;obtain⟨o7,eo7,hs8⟩:=WI.put key;have eC:=Oz.ne;have hm7:=WI.lt;obtain⟨WJ,WK⟩:=Oz.same (w':=w7.putObj mb o7) (λo ho=>(aA (by have:=oJ.o;omega)).trans ho) (λo ho=>(aA (by have:=oJ.o;omega)).trans ho);have WL:Fix (λq=>q=mb\/q=W4.heap.size) (W4.alloc o4) (w7.putObj mb o7):=⟨Bw.os.trans kg.os,Bw.tape.trans kg.tape,Bw.output.trans kg.output,by have:=Bw.size;have:=kg.size;simp;simp at this;omega,λq h1 h2=>(aA (λe=>h2 (.inl e))).trans ((Bw.block q (by have:=kg.size;omega) (λe=>h2 (.inr (by cases e;rfl)))).trans (kg.block q h1 h2))⟩;obtain⟨HF8,HR8,HL8,HS8,OC⟩:=h_5 WL WJ (show(w7.putObj mb o7).rangeLeft (wo.heap.size+1) W4.heap.size<wr.rangeLeft (wo.heap.size+1) W4.heap.size by rw[WK];exact E_) hs8 oz;clear AS Jo kg CY E9 oz yf Oz Bw hz7 E_ WI hs8 eC WJ WK WL;go_wp2
   go_roundw
   case rel=>exact⟨done++[key],HR8.o,HS8.o.congr λx=>by rw[Bool.or_assoc];congr 1;rw[aP];simp,HF8.o,λy hy=>by
    rcases aQ.1 hy with hy|hy
    ·exact Uj.o y hy
    ·rw[aJ.1 hy];exact aN.2 ⟨_,OC.o,rfl⟩⟩
   case measure=>exact HL8.o):G:=h
theorem amm {G:Prop}(h:G:=by
 go_wp2;clear x0 x1 x2 zx
 go_loopw [3,20] (λmv i wr=>∃(k m:Nat),k<=t.k.len/\i=.int .i64 k/\mv=.int .u64 (m:Nat)/\py m/\lV (t.k.drop k) m=M/\Below w.heap.size w wr) (λ_ i _=>t.k.len-(intOf i).toNat)
 case atStart=>exact⟨0,_,aw _,rfl,rfl,HUO.o,by rw[Fo.drop_zero];exact HM.o,kV.o⟩
 case round=>
  obtain⟨k,m,hk,rfl,rfl,hum,Rc,c_⟩:=hrel;by_cases bO:k<t.k.len
  ·obtain⟨b,off,cap,p,pc,ui,fF,f0,f1,f2,yI⟩:=dC (HS.o.mono HB.o) c_ bO;cases ui;have zb:=af f0;have bD:=Below.cA wr (.cells #[.int .i64 (t.k.at k).a,.int .i64 (t.k.at k).n,.slice p (t.k.at k).k.len pc] 54);have HC:=hI (QI.o k bO (.agg #[.int .i64 (t.k.at k).a,.int .i64 (t.k.at k).n,.slice p (t.k.at k).k.len pc]) _ w.heap.size ⟨_,rfl,yI.below bD c_.size⟩ (ai c_.size bD.size));have Tq:=HUK.o k bO;have ZC:=hI (hum.or Tq);have ir:=hI (ag c_ bD lR);have Zz:Hd (lV (t.k.drop (k+1)) (wO m (nU (t.k.at k)))=M):=hI (by rw[<-tC m bO];exact Rc);generalize nU (t.k.at k)=x at HC Tq ZC Zz;have om:(k:Int)<(t.k.len:Int):=by omega
   have dL:=hI bO;clear bD yI Rc c_ bO;unfold aH at HC
   go_wp2_with fail
   refine HC.o.mono ?_;rintro e w4 ⟨rfl,dV⟩;have oI:=hI (ag ir.o dV lR);clear dV;go_wp2
   go_roundw
   case rel=>exact⟨k+1,wO m x,dL.o,by go_num,rfl,ZC.o,Zz.o,oI.o⟩
   case measure=>have:=dL.o;simp[intOf];omega
  ·obtain rfl:k=t.k.len:=by omega
   have hd:t.k.drop t.k.len=.nil:=Fo.ie lR;rw[hd]at Rc;obtain rfl:m=M:=Rc;have P_:=hI c_;clear c_;go_wp2;go_ret;exact⟨rfl,P_.o⟩):G:=h
theorem amn {G:Prop}(h:G:=by
 have dL:=hI bO;obtain⟨b,off,cap,p,pc,he,fF,c0,c1,c2,iS⟩:=dC Sz.o (ir.o.mono HB.o) bO;cases he;have Gl:b<wr.heap.size:=by have:=ir.o.size;have:=HB.o;omega
 have sx:=Below.cA wr (.cells #[.int .i64 (k.at j).a,.int .i64 (k.at j).n,.slice p (k.at j).k.len pc] 26);have qW:=hI sx;have SA:Hd (Y.heap.size<=wr.heap.size):=hI Hm.size;have KZ:(j:Int)<(k.len:Int):=by omega
 have HC:=hI (QI.o (k.at j) _ (wr.alloc (.cells #[.int .i64 (k.at j).a,.int .i64 (k.at j).n,.slice p (k.at j).k.len pc] 26)) B (by have:=Fo.eD bO;have:=HM.o;unfold Nd.size at*;simp only at*;omega) ⟨_,rfl,iS.below sx (by have:=ir.o.size;have:=HB.o;omega)⟩ (by have:=ir.o.size;have:=HB.o;have:=sx.size;omega) (Fo.Ae HPK.o bO).1 (Fo.Ae HPK.o bO).2 (ag (ag P9.o ir.o lR) sx lR) (by have:=Fo.eD bO;have:=HKS.o;unfold Nd.size at*;simp only at*;omega));clear Hm tj E2 iS sx Kg
 go_wp2_with fail
 refine HC.o.mono ?_;rintro e w3 ⟨Nk,rfl,mJ,cP⟩;obtain⟨T',Ot⟩:∃T':Nd,T'=(k.at j).Cc φ:=⟨_,rfl⟩;have ea:(k.at j).a=T'.a:=by rw[Ot];rfl
 have en:(if(k.at j).a=1 then φ (k.at j).n else(k.at j).n)=T'.n:=by rw[Ot];rfl
 have ek:(k.at j).k.Cc φ=T'.k:=by rw[Ot];rfl
 have wS:Hd (Ts++[T']=(k.list.take (j+1)).map (Nd.Cc φ)):=hI (by rw[Fo.Jq dL.o,bA,Ot,HTS.o];rfl);rw[ek]at mJ;rw[en];obtain⟨sk,Ad,Oo⟩:=mJ.slice;subst Oo;obtain⟨Jr,fZ⟩:=qS w3 (.cells #[.int .i64 T'.a,.int .i64 T'.n,.slice sk T'.k.len Ad] 26);have pZ:=ag qW.o cP lR;have rH:=iI TJ.o.own;have Js:=ag pZ Jr lR;obtain⟨FT,Gk,kI,Zq⟩:=h_4 (TJ.o.keep (λb cur _ hb=>cY Js hb) (gN.below Js)) ((mJ.keep (gN.below Jr)).mono (S':=λb o=>nO 26 Y.heap.size b o/\some b≠(Value.slice ra j rc).ownBlock) (λb o _ hS=>⟨⟨by have:=SA.o;have:=qW.o.size;have:=hS.1;omega,hS.2⟩,λe=>by have:=(rH b e.symm).2;have:=hS.1;have:=qW.o.size;omega⟩)) fZ (ag HBJ.o Js lR);have HOY:Hd (∀q,(Value.slice ra j rc).ownBlock=some q->Y.heap.size<=q):=hI λq hq=>(rH q hq).1;have Zr:Hd (Y.heap.size<=w3.heap.size):=hI (by have:=SA.o;have:=pZ.size;omega);clear mJ cP Ot en ek Jr fZ pZ rH Js HC;rw[ea];clear ea
 go_wp2_with (at_builtin;refine wpList_append_own_at _ rfl _ _ 24 rfl Y.heap.size 26 i0 _ 3 40 Tryz.underlying24 hi zW sZ xw rfl (by decide) _ _ _ rfl FT.o.own ⟨w3.heap.size,0,none⟩ 1 1 [.int .i64 T'.a,.int .i64 T'.n,.slice sk T'.k.len Ad] rfl rfl ?c1 ?c2 ?c3 ?c4 ?c5 ?_)
 case c1=>
  intro jj u Sy;rw[Addr.add_lit,a8,cell_of_row _ _ _ _ _ _ kI.o,aF];exact Sy
 case c2=>
  intro u hu;simp only[aE,List.not_mem_nil,or_false]at hu;rcases hu with rfl|rfl|rfl<;>rfl
 case c3=>have:=Gj.o;have:=dL.o;unfold maxLen;omega
 case c4=>have:=Gj.o;have:=dL.o;have:=Se.o;omega
 case c5=>have:=Zr.o;simp;omega
 intro v' w4 eM cJ _ mF;obtain⟨uB,uC,rfl⟩:=cr eM;have t4:=j_.snoc (t:=T') (p:=.slice sk T'.k.len Ad) FT.o eM cJ (mF.imp (λe=>e) λe=>e.trans (by simp)) Gk.o;have b4:=Below.grown Zq.o cJ Zq.o.size HOY.o;have HF:=hI (show _/\_ from⟨b4,t4⟩);clear eM cJ mF t4 b4 FT Gk kI Zq;go_wp2
 go_roundw
 case rel=>exact⟨j+1,_,_,dL.o,by go_num,wS.o,HF.o.1,HF.o.2⟩
 case measure=>have:=dL.o;simp[intOf];omega):G:=h
theorem amo {G:Prop}(h:G:=by
 obtain⟨k,hk,rfl,bW⟩:=hrel;have dK:=hI bW;clear bW;by_cases bO:k<s.size
 ·rcases sH s[k].toNat s[k].toNat_lt with⟨l1,fS⟩|⟨l1,l2,fS⟩|⟨l1,l2,fS⟩|⟨l1,l2,fS⟩|⟨l1,fS⟩
  ·have g1:decide ((s[k].toNat:Int)<65)=true:=by simp;omega
   have g2:decide ((s[k].toNat:Int)<97)=true:=by simp;omega
   have g3:decide ((65:Int)<=(s[k].toNat:Int))=false:=by simp;omega
   have g4:decide ((97:Int)<=(s[k].toNat:Int))=false:=by simp;omega
   have HN:=hI (ji bO fS);clear fS;go_wp2;go_ret;exact⟨by rw[HN.o];rfl,rfl⟩
  ·have g1:decide ((s[k].toNat:Int)<65)=false:=by simp;omega
   have g2:decide ((s[k].toNat:Int)<97)=true:=by simp;omega
   have g3:decide ((65:Int)<=(s[k].toNat:Int))=true:=by simp;omega
   have g4:decide ((97:Int)<=(s[k].toNat:Int))=false:=by simp;omega
   have g5:decide ((90:Int)<(s[k].toNat:Int))=false:=by simp;omega
   have g6:decide ((s[k].toNat:Int)<=90)=true:=by simp;omega
   have HY:=hI fS;clear fS;go_wp2
   go_round
   case rel=>exact⟨k+1,by omega,by go_num,λj hj NI=>if h:j=k then by subst h;exact HY.o else dK.o j (by omega) NI⟩
   case measure=>simp[intOf];omega
  ·have g1:decide ((s[k].toNat:Int)<65)=false:=by simp;omega
   have g2:decide ((s[k].toNat:Int)<97)=true:=by simp;omega
   have g3:decide ((65:Int)<=(s[k].toNat:Int))=true:=by simp;omega
   have g4:decide ((97:Int)<=(s[k].toNat:Int))=false:=by simp;omega
   have g5:decide ((90:Int)<(s[k].toNat:Int))=true:=by simp;omega
   have g6:decide ((s[k].toNat:Int)<=90)=false:=by simp;omega
   have HN:=hI (ji bO fS);clear fS;go_wp2;go_ret;exact⟨by rw[HN.o];rfl,rfl⟩
  ·have g2:decide ((s[k].toNat:Int)<97)=false:=by simp;omega
   have g4:decide ((97:Int)<=(s[k].toNat:Int))=true:=by simp;omega
   have g5:decide ((122:Int)<(s[k].toNat:Int))=false:=by simp;omega
   have g6:decide ((s[k].toNat:Int)<=122)=true:=by simp;omega
   have HY:=hI fS;clear fS;go_wp2
   go_round
   case rel=>exact⟨k+1,by omega,by go_num,λj hj NI=>if h:j=k then by subst h;exact HY.o else dK.o j (by omega) NI⟩
   case measure=>simp[intOf];omega
  ·have g1:decide ((s[k].toNat:Int)<65)=false:=by simp;omega
   have g2:decide ((s[k].toNat:Int)<97)=false:=by simp;omega
   have g3:decide ((65:Int)<=(s[k].toNat:Int))=true:=by simp;omega
   have g4:decide ((97:Int)<=(s[k].toNat:Int))=true:=by simp;omega
   have g5:decide ((122:Int)<(s[k].toNat:Int))=true:=by simp;omega
   have g6:decide ((s[k].toNat:Int)<=122)=false:=by simp;omega
   have g7:decide ((90:Int)<(s[k].toNat:Int))=true:=by simp;omega
   have g8:decide ((s[k].toNat:Int)<=90)=false:=by simp;omega
   have HN:=hI (ji bO fS);clear fS;go_wp2;go_ret;exact⟨by rw[HN.o];rfl,rfl⟩
 ·have fK:k=s.size:=by omega
  subst fK;have HY:=hI (oO (sI λj hj=>dK.o j hj hj));by_cases h1:1<=s.size
  all_goals by_cases h2:s.size<=8
  all_goals
   go_wp2_with (first|(go_at_call 151;refine(eQ _ _ _ _).mono ?_;rintro e w' ⟨rfl,rfl⟩))
   all_goals
    go_ret;exact⟨by rw[HY.o];first|rfl|(unfold fX;simp;omega),rfl⟩):G:=h
theorem amq {G:Prop}(h:G:=by
 rintro e a1 W' hp0;cases e
 case exit|goto|ret|panic|outgrown=>exact hp0.elim
 obtain⟨c_,V8⟩:=hp0;have Dh:W'.heap[w.heap.size+1]? =some (.loop (rec .ready none)):=bQ hl c_ bO;have ua:W'.heap[w.heap.size]? =some (.deferred (some [])):=bQ hk c_ (by omega);have aay:w.heap.size+1<W'.heap.size:=(gE Dh).1;refine⟨_,run_beginRound Dh (by rw[sU]),?_⟩;have DS:(W'.putObj (w.heap.size+1) (.loop { rec .ready none with state:=.busy})).heap[w.heap.size+1]? =some (.loop { rec .ready none with state:=.busy}):=World.putObj_heap_same aay;have iF:(W'.putObj (w.heap.size+1) (.loop { rec .ready none with state:=.busy})).heap[w.heap.size]? =some (.deferred (some [])):=(aA (by omega)).trans ua;refine wpIn_mono (V8 _ (fM.put _ _ _)) ?_;have fin:∀(jump:Option Code) (W3:World),cq w.heap.size (W'.putObj (w.heap.size+1) (.loop { rec .ready none with state:=.busy})) W3->
  (Instr.endRound (w.heap.size+1) jump).run Tryz.prog W3=.ok (.bool jump.isNone) (W3.putObj (w.heap.size+1) (.loop (rec (if jump.isNone then .ready else .done) jump)))/\
  (W3.putObj (w.heap.size+1) (.loop (rec (if jump.isNone then .ready else .done) jump))).heap[w.heap.size+1]? =some (.loop (rec (if jump.isNone then .ready else .done) jump))/\
  (W3.putObj (w.heap.size+1) (.loop (rec (if jump.isNone then .ready else .done) jump))).heap[w.heap.size]? =some (.deferred (some [])):=λjump W3 ke=>by
  have hl3:=ke.2 _ _ (by omega) DS;have:=run_endRound (P:=Tryz.prog) jump hl3;rw[sU]at this |-;exact⟨this,World.putObj_heap_same (gE hl3).1,(aA (by omega)).trans (ke.2 _ _ lR iF)⟩
 rintro e a3 W3 hp;cases e with
 |normal=>
  obtain⟨ke,N8⟩:=hp;obtain⟨hr,NO,nL⟩:=fin none W3 ke;refine⟨_,_,hr,.inl ⟨rfl,⟨hI2 _ _ _ N8 (fM.put _ _ _),NO,nL⟩,?_⟩⟩;refine⟨by have:=ke.1;have:=c_.size;simp at*;omega,λb o hb ho=> ?_⟩;by_cases Li:b=w.heap.size+1
  ·subst Li;rw[hl]at ho;cases ho;exact NO
  ·exact(aA Li).trans (ke.2 _ _ hb ((aA Li).trans (cY c_ ho)))
 |ret=>
  obtain⟨ke,N8⟩:=hp;obtain⟨hr,NO,nL⟩:=fin (some .ret) W3 ke;exact⟨_,_,hr,.inr ⟨rfl,.ret,N6 _ _ _ _ N8 (fM.put _ _ _),NO,nL⟩⟩
 |exit id=>
  obtain⟨ke,N8⟩:=hp;obtain⟨hr,NO,nL⟩:=fin (some (.exit id)) W3 ke;exact⟨_,_,hr,.inr ⟨rfl,.exit id,N6 _ _ _ _ N8 (fM.put _ _ _),NO,nL⟩⟩
 |goto t=>exact hp.elim
 |panic ch=>exact hp.elim
 |outgrown=>exact hp.elim):G:=h
theorem amr {G:Prop}(h:G:=by
 go_loopw [3,4] (λov i wr=>∃(k:Nat) (out:List Int),k<=t.k.len/\i=.int .i64 k/\wr.ownsRow w.heap.size 3 1 ov out.length (cE out)/\out=h0++pM t.k k/\Below w.heap.size w wr/\wr.heap[w.heap.size]? =some (.cells #[.int .i64 t.a,.int .i64 t.n,.slice sa t.k.len sc] 54 (0,0))) (λ_ i _=>t.k.len-(intOf i).toNat)
 case atStart=>exact⟨0,h0,aw _,rfl,HO0.o,by rw[yh,bk],P9.o,nY.o⟩
 case round=>
  obtain⟨k,out,hk,rfl,lj,heq,hb,hh⟩:=hrel;have c2:=fu hh;have qz:=t.k.ry k;have Je:=Ek t.k k;have gP:t.size=1+t.k.size:=rfl;have Ga:out.length<=400:=by rw[heq,az];have:=HH0.o;omega
  by_cases bO:k<t.k.len
  ·obtain⟨b,off,cap,p,pc,ui,fF,f0,f1,f2,iS⟩:=dC HS.o hb bO;cases ui;have nG:=Fo.eD bO;have bZ:=HI.o (t.k.at k) _ wr w.heap.size (by show 1+(t.k.at k).k.size<=m;omega) (by omega) ⟨_,rfl,iS⟩ hb.size;have hle:=yl (t.k.at k);have wT:=yj bO;have hl9:(kC (t.k.at k)).length<=400:=by have:(t.k.at k).size=1+(t.k.at k).k.size:=rfl;omega
   obtain⟨l,hl⟩:=xE (kC (t.k.at k));rw[<-hl]at bZ wT hl9;obtain⟨HC,HB,HH,uj⟩:=h_4 bZ hb hh lj;have rQ:Hd (out++l=h0++pM t.k (k+1)):=hI (by rw[wT,heq,aG]);clear bZ wT hb hh lj nG hle hl iS gP qz Je hm hm9 heq
   go_wp2_with fail
   refine HC.o.mono ?_;rintro e w2 ⟨lv,rfl,uS,bD⟩;obtain⟨B1,NN,cR,CQ⟩:=h_4 uS (gC uj.o (CK.below bD)) (ag HB.o bD lR) (cY bD HH.o);clear uS bD c2 f0 f1 f2 HB uj HH
   go_wp2_with (at_builtin;refine qT rfl _ _ 74 rfl w.heap.size 3 j0 _ 1 8 Tryz.underlying74 CJ CL CM CN rfl (by decide) _ _ _ rfl NN.o lv l.length _ w2.heap.size rfl B1.o (cE l) (by rw[dJ,Nat.mul_one]) (λj hj=>eH l j (by omega)) (lk l) (by unfold maxLen;omega) (by omega) cR.o.size ?_;intro v3 w3 gR fL _)
   have hh3:=(fL.block _ (gE CQ.o).1 (λhh=>lQ NN.o CQ.o (by decide) _ hh.symm rfl)).trans CQ.o;have cP:=cR.o.grown fL cR.o.size (λq hq=>(NN.o.lt q hq).1);rw[eZ,<-az]at gR;obtain⟨B0,fT,HH3⟩:=h_3 gR cP hh3;clear gR fL cP hh3;go_wp2
   go_roundw
   case rel=>exact⟨k+1,_,by omega,by go_num,B0.o,rQ.o,fT.o,HH3.o⟩
   case measure=>simp[intOf];omega
  ·have fK:k=t.k.len:=by omega
   have HV:Hd (kC t=out):=hI (by rw[heq,fK,Bh,aho.o];rfl);have HB:=hI hb;have uj:=hI lj;clear hb lj hh heq qz Je gP;go_wp2;go_ret;exact⟨_,rfl,by rw[HV.o];exact eS uj.o (by omega) λi hi=>eH out i (by omega),HB.o⟩):G:=h
theorem ams {G:Prop}(h:G:=by
 have On:=hI Hg;clear Hg
 go_wp2_with fail
 refine aM (by kernel_rfl) (by kernel_rfl) ?_
 repeat (first|(go_big_quiet_want;refine kR _ rfl rfl Nl ?_;simp only[Act.put,bG,bU,bV];go_big_quiet_on)|go_big_quiet_step (fail))
 refine wpQuiet_nil ?_;intro V dU;have kG:=hI (ag ir.o dU lR);clear dU;go_wp2;go_ret;exact⟨by rw[On.o];first|done|rfl,kG.o⟩):G:=h
theorem amt {G:Prop}(h:G:=by
 obtain⟨k,hk,rfl,hj⟩:=hrel;by_cases bO:k<n
 ·obtain⟨_,_,_,he,_,_,hr⟩:=HR.o k wr hj;cases he;obtain⟨b,off,rfl,oG,bX⟩:=hr (by omega);have om:(k:Int)<(n:Int):=by omega
  have c0:=bX (k*3) (by omega);have c1:=bX (k*3+1) (by omega);have c2:=bX (k*3+2) (by omega);rw[<-bN]at c1 c2;have CS:=hI hj;clear bX hr hj
  go_wp2_with fail
  refine(HF.o k bO _ CS.o).mono ?_;rintro e w2 (⟨rfl,ll⟩|⟨rfl,ll⟩)
  ·have yu:=hI ll;clear ll;go_wp2
   go_roundw
   case rel=>exact⟨k+1,by omega,by go_num,yu.o⟩
   case measure=>simp[intOf];omega
  ·have yu:=hI ll;clear ll;go_wp2;go_ret;exact .inr ⟨k,bO,rfl,yu.o⟩
 ·have:k=n:=by omega
  subst this;have CS:=hI hj;clear hj;go_wp2;go_ret;exact .inl ⟨rfl,CS.o⟩):G:=h
theorem amu {G:Prop}(h:G:=by
 have rQ:Hd (lr o2 (cN l j)=sP (t.a==8&&k==1) t.n out (l.take (j+1))):=hI (by rw[RP.o,ah (by rw[hcut];simp)]);clear hcut
 go_wp2_with fail
 refine aM (by kernel_rfl) (by kernel_rfl) ?_
 repeat go_big_quiet_step (fail)
 refine wpQuiet_nil ?_;intro w8 kM;have K8:=we o2 (cN l j) _ w8 (HO.o.below kM lR) kM.size Ga;have l0':=(kM.cell (p:=⟨lb,lo+j,none⟩) zl).trans l0;obtain⟨Ve,Gb,HL0⟩:=h_3 K8 (ag yV.o kM lR) l0';clear K8 kM l0 l0';have l0:=HL0.o
 go_wp2_with fail
 refine Ve.o.mono ?_;rintro e w9 ⟨v9,rfl,xn,sx⟩;have qW:=hI (ag Gb.o sx lR);have Bg:=hI xn;clear sx xn l0;go_wp2
 go_roundw
 case rel=>exact⟨j+1,lr o2 (cN l j),by omega,by go_num,Bg.o,rQ.o,qW.o⟩
 case measure=>simp[intOf];omega):G:=h
theorem amv {G:Prop}(h:G:=by
 have CS:=hI hj;clear bX hr hj
 go_wp2_with fail
 refine(HF.o k bO _ CS.o).mono ?_;rintro e w2 (⟨rfl,ll⟩|⟨rfl,ll⟩)
 ·have yu:=hI ll;clear ll;go_wp2
  go_roundw
  case rel=>exact⟨k+1,by omega,by go_num,yu.o⟩
  case measure=>simp[intOf];omega
 ·have yu:=hI ll;clear ll;go_wp2;go_ret;exact .inr ⟨k,bO,rfl,yu.o⟩):G:=h
theorem amw {G:Prop}(h:G:=by
 refine wpQuiet_nil ?_;intro w2 bD;have p2:=cY bD N2.o;have c2:=cZ p2;have f2:w2.frozen? ⟨w.heap.size+1+1,0,none⟩=false:=by simp[World.frozen?,p2]
 have z2:=af c2;have ir:=hI (ag fT.o bD lR);clear bD p2;go_wp2;refine jF (v:=.bool false) (di rfl rfl (dz Tryz.underlying4 rfl ?_)) rfl ⟨by rw[HV.o],ir.o.setCell (p:=⟨w.heap.size+1+1,0,none⟩) (by show w.heap.size<=w.heap.size+1+1;omega) _⟩;exact World.cell?_setCell_same _ _ _ c2):G:=h
theorem amx {G:Prop}(h:G:=by
 have Ho:=Below.cA W6 (.cells #[.int .i64 (k:Nat),.int .i64 T'.a,.int .i64 T'.n,.slice sk T'.k.len Ad] 69);obtain⟨JJ,H7,XA⟩:=h_3 (a_ W6 (.cells #[.int .i64 (k:Nat),.int .i64 T'.a,.int .i64 T'.n,.slice sk T'.k.len Ad] 69)) (H6.o.below Ho) (Sz.o.keep (gN.below Ho));obtain⟨lb,hlb⟩:=xE LB;have hq:=HLB.o;rw[hq];have HGB:=hI H6.o.lt;clear Ho hlb hq
 go_wp2_with (at_builtin;refine wpList_append_own_at _ rfl _ _ 29 rfl gb 69 i0 _ 4 48 Tryz.underlying29 hi zW sZ xw rfl (by decide) _ _ _ rfl H7.o.own.own ⟨W6.heap.size,0,none⟩ 1 1 [.int .i64 (k:Nat),.int .i64 T'.a,.int .i64 T'.n,.slice sk T'.k.len Ad] rfl rfl ?c1 ?c2 ?c3 ?c4 ?c5 ?_)
 case c1=>
  intro jj u Sy;rw[Addr.add_lit,a8,cell_of_row _ _ _ _ _ _ JJ.o,aF];exact Sy
 case c2=>
  intro u hu;simp only[aE,List.not_mem_nil,or_false]at hu;rcases hu with rfl|rfl|rfl|rfl<;>rfl
 case c3=>have:=YB.o;have:=dL.o;unfold maxLen;omega
 case c4=>have:=YB.o;have:=dL.o;omega
 case c5=>have:=HGB.o;simp;omega
 intro v' Kl eM cJ _ mF;obtain⟨uB,uC,rfl⟩:=cr eM;have wT:=H7.o.snoc (b:=⟨(k:Nat),T'⟩) eM cJ XA.o;have HS:=hI wT;clear eM cJ mF wT H7 XA JJ;go_wp2
 go_roundw
 case rel=>exact⟨k+1,o_,qN,yz,_,_,dL.o,by go_num,by simpa using HS.o,by rw[HSU.o,ah ye.o],by rw[az];have:=YB.o;simp;omega,nR.o,Yp.o⟩
 case measure=>have:=dL.o;simp[intOf];omega):G:=h
theorem amy {G:Prop}(h:G:=by
 go_wp2_with fail
 refine aM (by kernel_rfl) (by kernel_rfl) ?_
 repeat go_big_quiet_step ((with_reducible exact aH.quiet (HQ.o _)))
 refine wpQuiet_nil ?_;intro w2 bD;have cR:=hI (ag cg.o bD (by simp));clear bD;go_wp2;go_ret;exact⟨by rw[HV.o];rfl,cR.o⟩):G:=h
theorem amz {G:Prop}(h:G:=by
 go_wp2_with (go_at_call 151;refine(eQ _ _ _ _).mono ?_;rintro e w' ⟨rfl,dR⟩;rw[dR,fw.o];clear dR w')
 go_ret;exact⟨by rw[HV.o];rfl,cg.o⟩):G:=h
theorem amA {G:Prop}(h:G:=by
 refine⟨trivial,rfl,?_⟩;refine(callsIn_wide.2 HE2.o).mono ?_;rintro e W3 (⟨rfl,Qu,ke⟩|⟨rfl,hx⟩)
 ·have HJ3:=hI Qu;have kI:=hI ke;clear Qu ke
  try gi_wp2
  go_ret;exact .inl ⟨rfl,HJ3.o,kI.o⟩
 ·have HX:=hI hx;clear hx
  try gi_wp2
  go_ret;exact .inr ⟨rfl,HX.o⟩):G:=h
theorem amB {G:Prop}(h:G:=by
 intro v' Y3 gR fL _;have cP:Below w.heap.size w Y3:=qW.o.grown fL HS9.o (λq hq=>by have:=(zP.o.lt q hq).1;have:=HT9.o;omega);have KP:F8 Y3 Y3.heap.size v' (bs++uy l (k+1)):=by
  rw[P_.o];unfold F8;rw[az,aY];refine eS gR (by omega) λi hi=> ?_;rw[show[]++pI uc++[.string (bS l k).name]=pI (uc++[(bS l k).name])by simp[pI]];exact zO _ i (by rw[az,aY];omega)
 have fT:=hI cP;have HR3:=hI KP;have hS3:Y3.cell? ⟨nb,no+k*2,none⟩=some (.string (bS l k).name):=((HN0.o Y3 fT.o));clear gR fL cP KP;refine qK hK (hS3) λhHeld=> ?_;clear hK K;clear hS3;refine qR 9 ⟨some 1,.assign (.tmp 54),207,"ref.go:42",#[⟨8,.data⟩,⟨8,.chain⟩,⟨0,.phase⟩,⟨1,.phase⟩,⟨2,.phase⟩,⟨3,.phase⟩,⟨4,.phase⟩,⟨5,.phase⟩,⟨6,.phase⟩,⟨7,.phase⟩,⟨8,.phase⟩],none⟩ λK hK=> ?_;go_simp;refine qK hK (hHeld) λhHeld=> ?_;clear hK K;refine wpAnyH_done (by kernel_rfl) ?_ _;clear hHeld;go_wp2
 go_roundw
 case rel=>exact⟨k+1,by omega,by go_num,HR3.o,ahl.o,fT.o⟩
 case measure=>simp[intOf];omega):G:=h
theorem amC {G:Prop}(h:G:=by
 rintro e w1 ⟨rfl,hb⟩;replace H:=hI (H.o.step hb);clear hb c0 c1 c2 e0 e1 e2 e3;obtain⟨c0,c1,c2⟩:=dF (H.o.go 1 rfl);obtain⟨e0,e1,e2,e3⟩:=ld (H.o.go 0 rfl)
 go_wp2_with fail
 refine(sn _).mono ?_;rintro e w1 ⟨rfl,hb⟩;replace H:=hI (H.o.step hb);clear hb c0 c1 c2 e0 e1 e2 e3;go_wp2;go_ret;exact⟨rfl,H.o.1⟩):G:=h
theorem amD {G:Prop}(h:G:=by
 obtain⟨b,off,cap,p,pc,he,fF,f0,f1,f2,iS⟩:=dC HS.o hb bO;cases he;have nG:=Fo.eD bO;have bZ:=HI.o (t.k.at k) _ wr w.heap.size (by have:=HM.o;have:t.size=1+t.k.size:=rfl;show 1+(t.k.at k).k.size<=m;omega) (HD.o.below hb lR) ⟨_,rfl,iS⟩ hb.size;clear iS nG hb hh;cases hs:ew (dA ds vv) (t.k.at k)
 case false=>
  have HF:Hd (ew (dA ds vv) t=false):=hI (De bO hs);rw[hs]at bZ;have HC:=hI bZ;clear hs bZ
  go_wp2_with fail
  refine HC.o.mono ?_;rintro e w2 ⟨rfl,bD⟩;have cR:=hI (ag HB.o bD lR);clear bD c2 f0 f1 f2;go_wp2;go_ret;exact⟨by rw[HF.o];rfl,cR.o⟩
 case true=>
  have HT:=hI hs;rw[hs]at bZ;have HC:=hI bZ;clear hs bZ
  go_wp2_with fail
  refine HC.o.mono ?_;rintro e w2 ⟨rfl,bD⟩;have cR:=hI (ag HB.o bD lR);have CQ:=hI (cY bD HH.o);clear bD c2 f0 f1 f2;go_wp2
  go_roundw
  case rel=>exact⟨k+1,by omega,by go_num,λj hj=>if h:j=k then h ▸ HT.o else dK.o j (by omega),cR.o,CQ.o⟩
  case measure=>simp[intOf];omega):G:=h
theorem amE {G:Prop}(h:G:=by
 go_enter Tryz.func97,Tryz.ntmps97
 go_wp2;rw[<-wR.o];refine aM (by kernel_rfl) (by kernel_rfl) ?_
 repeat go_big_quiet_step ((first|(with_reducible exact aH.quiet (RU.o _))|(with_reducible exact aH.quiet (NR.o _))|(with_reducible exact aH.quiet (NQ.o _ _))))
 refine wpQuiet_nil ?_;intro w2 bD;clear c0 c1 d0 d1 d2 d3 d4 d5 x1;have cR:=hI (ag cg.o bD lR);clear bD;go_wp2;go_ret;exact⟨by rw[HV.o];rfl,cR.o⟩):G:=h
theorem amF {G:Prop}(h:G:=by
 go_enter Tryz.func131,Tryz.ntmps131
 go_upto_region 1 with fail
 rw[<-BV.o]
 go_wp2_with fail
 refine aM (by kernel_rfl) (by kernel_rfl) ?_
 repeat go_big_quiet_step ((first|(with_reducible exact aH.quiet (HD.o _ _))|(with_reducible exact aH.quiet (HP.o _ _))|(with_reducible exact aH.quiet (HC.o _ _))))
 refine wpQuiet_nil ?_;intro V dU;have kG:=hI (ag kV.o dU lR);clear dU;go_wp2;go_ret;exact⟨rfl,kG.o⟩):G:=h
theorem amG {G:Prop}(h:G:=by
 obtain⟨k,hk,rfl,rfl,hb⟩:=hrel;have HB:=hI hb;have hle:=wQ.o k hk;by_cases bO:k<ds.length
 ·obtain⟨b,off,cap,p,pc,he,fF,d0,d1,d2,ja,uT⟩:=iR HD.o hb bO;cases he;have kH:=ja.small;have zb:b<wr.heap.size:=af d2;have rQ:=hI (zV bO);have om:(k:Int)<(ds.length:Int):=by omega
  obtain⟨c,hc⟩:=xE (xy ds k);rw[<-hc]at hle rQ |-;obtain⟨L,hL⟩:∃c,c=(b8 ds k).cons.length:=⟨_,rfl⟩;rw[<-hL]at kH rQ d2;have HBN:=hI (ag hb (Below.cA wr (.cells #[.string (b8 ds k).name,.int .i64 (b8 ds k).params,.slice p L pc] 186)) lR);clear ja uT hb hc hL;go_wp2
  go_roundw
  case rel=>exact⟨k+1,by omega,by go_num,by rw[rQ.o];go_num,HBN.o⟩
  case measure=>simp[intOf];omega
 ·have fK:k=ds.length:=by omega
  subst fK;clear hb;go_wp2;go_ret;exact⟨rfl,HB.o⟩):G:=h
theorem amH {G:Prop}(h:G:=by
 rw[hs]at uX;clear hs
 go_wp2_with fail
 refine aM (by kernel_rfl) (by kernel_rfl) ?_
 repeat go_big_quiet_step ((with_reducible exact aH.quiet (uX.o _ _)))
 refine wpQuiet_nil ?_;intro w2 bD;have cR:=hI (HB.o.trans (bD.mono hz));clear bD;go_wp2
 go_roundw
 case rel=>exact⟨k+1,by omega,by go_num,λj hj=>if h:j=k then h ▸ HN.o else dK.o j (by omega),cR.o⟩
 case measure=>simp[intOf];omega):G:=h
theorem amI {G:Prop}(h:G:=by
 go_enter Tryz.func132,Tryz.ntmps132
 go_wp2_with fail
 refine aM (by kernel_rfl) (by kernel_rfl) ?_
 repeat go_big_quiet_step (fail)
 refine wpQuiet_nil ?_;intro w2 bD;have qW:=hI bD;clear bD d0 d1 d2;go_wp2;go_ret;exact⟨by rw[HV.o];rfl,qW.o⟩):G:=h
theorem amJ {G:Prop}(h:G:=by
 refine⟨rfl,?_⟩;refine HR.o.mono ?_;rintro e W2 (⟨rfl,ll,iF,bD,yW⟩|⟨rfl,hx⟩)
 ·have d0:=cZ bD;have d2:W2.cell? ⟨W.heap.size,2,none⟩=some (.slice ka t.k.len kc):=by rw[cell_of_row _ _ _ _ _ _ (yW _ fw.o)];rfl
  have HE2:=hI (HE.o W2 ll iF);clear ll iF bD yW hy
  gi_wp2_with fail
  refine⟨trivial,rfl,?_⟩;refine(callsIn_wide.2 HE2.o).mono ?_;rintro e W3 (⟨rfl,Qu,ke⟩|⟨rfl,hx⟩)
  ·have HJ3:=hI Qu;have kI:=hI ke;clear Qu ke
   try gi_wp2
   go_ret;exact .inl ⟨rfl,HJ3.o,kI.o⟩
  ·have HX:=hI hx;clear hx
   try gi_wp2
   go_ret;exact .inr ⟨rfl,HX.o⟩
 ·have HX:=hI hx;clear hx
  gi_wp2_with fail
  refine⟨trivial,?_⟩
  gi_wp2
  go_ret;exact .inr ⟨rfl,HX.o⟩):G:=h
theorem amK {G:Prop}(h:G:=by
 go_enter Tryz.func227,Tryz.ntmps227
 go_wp2;go_ret;exact⟨by rw[HV.o];rfl,cg.o⟩):G:=h
theorem amL {G:Prop}(h:G:=by
 go_wp2;refine jF (v:=.bool false) (di rfl rfl (dz Tryz.underlying4 rfl ?_)) rfl ⟨by rw[ER.o],Dr.o.setCell (p:=⟨w.heap.size+1+1,0,none⟩) (by show w.heap.size<=w.heap.size+1+1;omega) _⟩;exact World.cell?_setCell_same _ _ _ c2):G:=h
theorem amM {G:Prop}(h:G:=by
 clear bD;go_wp2;go_ret;exact⟨by rw[HV.o];rfl,cR.o⟩):G:=h
theorem amN {G:Prop}(h:G:=by
 rw[hs]at uX;clear hs
 go_wp2_with fail
 refine aM (by kernel_rfl) (by kernel_rfl) ?_
 repeat go_big_quiet_step ((with_reducible exact aH.quiet (uX.o _ _)))
 refine wpQuiet_nil ?_;intro w2 bD;have cR:=hI (HB.o.trans (bD.mono hz));clear bD;go_wp2;go_ret;exact⟨by rw[HN.o];rfl,cR.o⟩):G:=h
theorem amO {G:Prop}(h:G:=by
 have HJ:=hI hj;clear hj;go_wp2;go_ret;exact .inl ⟨rfl,HJ.o⟩):G:=h
theorem amP {G:Prop}(h:G:=by
 go_upto_region 1 with fail
 rw[<-T6.o]
 go_wp2_with fail
 refine fw.o.mono ?_;rintro e w3 ⟨rfl,cP⟩;have k2:=cY cP lG.o.2;have c_:=ag cR.o cP lR;have AK:=hI (iK.o w3 c_);have ir:=hI c_;clear cP x0 x1 x2 zx c_;have y0:=cZ k2;have y1:=eY k2;have y2:=fu k2;have zy:=af y0;clear k2
 go_wp2_with fail
 refine AK.o.mono ?_;rintro e w4 ⟨rfl,dV⟩;have kG:=hI (ag ir.o dV lR);clear dV y0 y1 y2 zy;go_wp2
 go_ret2
 exact⟨kG.o,rfl⟩):G:=h
theorem amQ {G:Prop}(h:G:=by
 go_wp2_with (go_at_call 188;refine(lq _ _ uT).mono ?_;rintro e w' ⟨rfl,dR⟩;rw[dR,N1.o];clear dR w')
 go_ret;exact⟨by rw[HF.o];rfl,by rw[<-BV.o];exact ir.o⟩):G:=h
theorem amR {G:Prop}(h:G:=by
 go_wp2
 go_roundw
 case rel=>exact⟨k+1,by omega,by go_num,λj hj=>if h:j=k then h ▸ HT.o else dK.o j (by omega),cR.o,CQ.o⟩
 case measure=>simp[intOf];omega):G:=h
theorem amS {G:Prop}(h:G:=by
 go_wp2
 go_roundw
 case rel=>exact⟨k+1,by omega,by go_num,λj hj=>if h:j=k then h ▸ HY.o else dK.o j (by omega),jP.o⟩
 case measure=>simp[intOf];omega):G:=h
theorem amT {G:Prop}(h:G:=by
 clear hj;go_wp2;go_ret;exact .inr ⟨k,hk,rfl,HJ.o⟩):G:=h
theorem amU {G:Prop}(h:G:=by
 have iK:=hI (HC.o _ (HJ.o k _ _ hj qM));have Sf:=hI qM;clear bX hr hj qM HC fK sW
 go_wp2_with fail
 refine iK.o.mono ?_;rintro e w2 (⟨rfl,ll,iF⟩|⟨rfl,ll⟩)
 ·have yu:=hI ll;have lX:=hI ((Se.o.below Sf.o).trans iF);clear ll iF;go_wp2
  go_roundw
  case rel=>exact⟨k+1,by omega,by go_num,yu.o,lX.o⟩
  case measure=>simp[intOf];omega
 ·have yu:=hI ll;clear ll;go_wp2;go_ret;exact .inr ⟨k,bO,rfl,yu.o⟩):G:=h
theorem amV {G:Prop}(h:G:=by
 go_wp2_with fail
 refine(HC.o _ (Below.cA _ _)).mono ?_;rintro e w2 ⟨rfl,bD⟩;have cR:Hd (Below w.heap.size w w2):=hI (ag (Below.cA _ _) bD (by first|exact lR|simp));clear bD;go_wp2;go_ret;exact⟨rfl,cR.o⟩):G:=h
theorem amW {G:Prop}(h:G:=by
 refine⟨⟨by simpa [World.setCell] using xD.o.1,λb o hb ho=>(au _ _ _ _ (by have:=eO.o;have:=iV.o;show b≠w.heap.size+1+1;omega)).trans (xD.o.2 b o hb ho)⟩,rfl,by rw[cz H2.o];rfl,(EI.o.toBelow (n:=w.heap.size) (by have:=eO.o;have:=iV.o;omega) (λb e=>by have:=iV.o;omega)).setCell (p:=⟨w.heap.size+1+1,0,none⟩) (by show w.heap.size<=w.heap.size+1+1;omega) _,?_⟩;rw[rS,<-HE.o,List.all_append,List.all_cons];simp[okD,HSO.o]):G:=h
theorem amX {G:Prop}(h:G:=by
 refine⟨(List.range n).map f,c,by rw[aW,List.length_range];exact hr,λi hi=> ?_⟩;rw[aW,List.length_range]at hi;rw[hg i hi];exact hf i hi):G:=h
theorem amY {G:Prop}(h:G:=by
 rintro e W2 ⟨⟨v,rfl⟩,(⟨hi,hl,hk⟩|⟨pre,c,hi,hl,hk⟩)⟩
 ·exact⟨none,_,by have:=run_endLoop (P:=Tryz.prog) hl (by rw[sU];simp);rw[sU]at this;exact this,xg _ _ lR (hI2 _ _ _ hi (fM.put _ _ _)) ((aA (by omega)).trans hk)⟩
 ·exact⟨some c,_,by have:=run_endLoop (P:=Tryz.prog) hl (by rw[sU];simp);rw[sU]at this;exact this,V7 _ c pre _ lR (N6 _ _ _ _ hi (fM.put _ _ _)) ((aA (by omega)).trans hk)⟩):G:=h
theorem amZ {G:Prop}(h:G:=by
 go_wp2_with fail
 refine aM (by kernel_rfl) (by kernel_rfl) ?_
 repeat go_big_quiet_step ((with_reducible exact aH.quiet (abv.o _ _)))
 refine wpQuiet_nil ?_;intro V dU;have ud:=hI (ag ir.o dU lR);clear dU c4 z4 hck zk;go_wp2
 go_roundw
 case rel=>exact⟨k+1,nk.o,by go_num,λi hi=>by by_cases e:i=k;rw[e];exact HNR.o;exact dK.o i (by omega),ud.o⟩
 case measure=>have:=nk.o;simp[intOf];omega):G:=h
theorem am0 {G:Prop}(h:G:=by
 have:k=n:=by omega
 subst this;have CS:=hI hj;clear hj;go_wp2;go_ret;exact .inl ⟨rfl,CS.o⟩):G:=h
theorem am1 {G:Prop}(h:G:=by
 refine⟨_,rfl,(HFT.o.keep λb o hS h=>b'.same b o (by have:=hS.1;have:=Wk.o;omega) h).mono λb o _ hS=>⟨by have:=hS.1;have:=Wk.o;omega,hS.2⟩,⟨b'.os.trans LM.o.os,b'.tape.trans LM.o.tape,b'.output.trans LM.o.output,ai LM.o.size b'.size,λq hq=> ?_⟩⟩;have e1:=LM.o.block q hq;rw[<-e1];have FP:q<V.heap.size:=by have:=LM.o.size;omega
 rw[cD FP];exact b'.same q _ (by omega) (cD FP)):G:=h
theorem am2 {G:Prop}(h:G:=by
 go_wp2_with fail
 refine(HC.o _ bR).mono ?_;rintro e w2 ⟨rfl,bD⟩;have cR:Hd (Below w.heap.size w w2):=hI (ag bR bD (by first|exact lR|simp));clear bD;go_wp2;go_ret;exact⟨rfl,cR.o⟩):G:=h
theorem am3 {G:Prop}(h:G:=by
 refine⟨⟨by simp[World.setCell],λb oo hb ho=>(au _ _ _ _ (by have:=eO.o;have:=oJ.o;show b≠w.heap.size+1+1;omega)).trans ho⟩,rfl,(cz RW.o).trans rfl,(yq.o.toBelow (n:=w.heap.size) (by have:=eO.o;have:=oJ.o;omega) (λb e=>by have:=iV.o;omega)).setCell (p:=⟨w.heap.size+1+1,0,none⟩) (by show w.heap.size<=w.heap.size+1+1;omega) _,by rw[Jw.o,aB (by have:=B1.o;omega)];rfl⟩):G:=h
theorem am4 {G:Prop}(h:G:=by
 refine wpQuiet_nil ?_;intro w5 fQ;have xu:=hI (u9.o oV);clear oV;have jP:=hI (ag xp.o fQ lR);clear fQ c0 c1 d1 d5 f0 f1 f2;go_wp2;go_ret;exact⟨by rw[xu.o];rfl,jP.o⟩):G:=h
theorem am5 {G:Prop}(h:G:=by
 refine⟨⟨by simp[World.setCell],λb oo hb ho=>(au _ _ _ _ (by have:=eO.o;have:=oJ.o;show b≠w.heap.size+1+1;omega)).trans ho⟩,rfl,(cz RW.o).trans rfl,(yq.o.toBelow (n:=w.heap.size) (by have:=eO.o;have:=oJ.o;omega) (λb e=>by have:=iV.o;omega)).setCell (p:=⟨w.heap.size+1+1,0,none⟩) (by show w.heap.size<=w.heap.size+1+1;omega) _,by rw[Jw.o];simp⟩):G:=h
theorem am6 {G:Prop}(h:G:=by
 rintro e X (⟨rfl,⟨CF,nX⟩,_⟩|⟨k,_,rfl,hx⟩)
 ·rw[wk]at CF;exact .inl ⟨rfl,by unfold dM;rw[<-List.singleton_append,<-aG];exact CF,nX⟩
 ·exact .inr ⟨rfl,hx⟩):G:=h
theorem am7 {G:Prop}(h:G:=by
 intro j u hj;rw[Addr.add_lit,a8,cell_of_row _ _ _ _ _ _ U8.o,aF];exact hj):G:=h
theorem am8 {G:Prop}(h:G:=by
 have HJ:=hI hj;clear hj;go_wp2;go_ret;exact .inl ⟨rfl,HJ.o.1,HK.o _ HJ.o.2⟩):G:=h
theorem am9 {G:Prop}(h:G:=by
 go_wp2_with fail
 refine aM (by kernel_rfl) (by kernel_rfl) ?_
 repeat go_big_quiet_step (fail)
 refine wpQuiet_nil ?_;intro V dU;have ud:=hI (ag HB.o dU lR);clear dU c1 c2 z1;go_wp2
 go_roundw
 case rel=>exact⟨j+1,dL.o,by go_num,by rw[u9.o],ud.o⟩
 case measure=>have:=dL.o;simp[intOf];omega):G:=h
theorem am_ {G:Prop}(h:G:=by
 go_enter Tryz.func227,Tryz.ntmps227
 go_wp2
 go_loop [8] (λi=>i=.int .i64 0) (λ_=>0)
 case atStart=>exact rfl
 case round=>
  subst hrel;have Bg:Hd (ew (dA ds vv) t=true):=hI (by rw[o8 (λi hi=>ay hi (by have:=G_.o;omega))];exact FU.o);go_wp2;go_ret;exact⟨by rw[Bg.o];rfl,cg.o⟩):G:=h
theorem ana {G:Prop}(h:G:=by
 have hr:=hg.row;rcases hg.own.2 with h|⟨g',cap,cur,rfl,hb,tS,rest⟩
 ·exact .inl h
 ·exact .inr ⟨g',cap,cur,rfl,hb,h2 _ _ hr.symm tS,rest⟩):G:=h
theorem anb {G:Prop}(h:G:=by
 rcases Nat.lt_or_ge j n with h|h
 ·exact h
 ·exact ay hj (tail_waits hs hc hn inv _ i rfl oF ux j h)):G:=h
theorem anc {G:Prop}(h:G:=by
 go_wp2_with fail
 refine HC.o.mono ?_;rintro e w4 ⟨rfl,o4,m4⟩;have Wm:=hI (Oi.o.trans' m4);have HO4:=hI o4;clear m4 o4;go_wp2
 go_roundw
 case rel=>exact⟨j+1,st4,dL.o,by go_num,HO4.o,Wm.o,HV.o.low,ai HV.o.kj HZJ.o,HR4.o⟩
 case measure=>have:=dL.o;simp[intOf];omega):G:=h
theorem ane {G:Prop}(h:G:=by
 rcases hq with rfl|hq
 ·exact⟨_,dW.2.1,by exact⟨by decide,by decide⟩⟩
 ·rcases dW.2.2.2 with⟨e,_⟩|⟨g',cap,cur,e,_,hg,_⟩
  ·rw[e]at hq;cases hq
  ·rw[e]at hq;have:g'=q:=Option.some.inj hq;subst this;exact⟨_,hg,by exact⟨by decide,by decide⟩⟩):G:=h
theorem anf {G:Prop}(h:G:=by
 go_enter Tryz.func28,Tryz.ntmps28
 go_wp2_with fail
 refine(HC.o _ (Below.cA _ _)).mono ?_;rw[HZ.o];rintro e w2 ⟨rfl,bD⟩;have cR:Hd (Below w.heap.size w w2):=hI ((Below.cA _ _).trans (bD.mono (by simp)));clear bD;go_wp2;go_ret;exact⟨by rw[HF.o];rfl,cR.o⟩):G:=h
theorem ang {G:Prop}(h:G:=by
 intro u hu;simp only[aE,List.not_mem_nil,or_false]at hu;rcases hu with rfl|rfl|rfl|rfl<;>rfl):G:=h
theorem anh {G:Prop}(h:G:=by
 clear iH
 go_wp2_with fail
 refine iK.o.mono ?_;rintro e w5 ⟨ju,rfl⟩;have kG:=hI (ag ir.o (No.o w5 ju) lR);have HI5:=hI ((Jn.o.below (No.o w5 ju) lR).mono (No.o w5 ju).size);clear ju;go_wp2
 go_ret3
 exact⟨kG.o,.slice p l.length pc,rfl,HI5.o⟩):G:=h
theorem ani {G:Prop}(h:G:=by
 have HJ:=hI hj;clear hj;go_wp2;go_ret;exact .inr ⟨rfl,HJ.o⟩):G:=h
theorem anj {G:Prop}(h:G:=by
 have:(cur.toList.take (gs.length*1))[k]? =vals[k]? :=by rw[h7]
 rw[List.getElem?_take,aq (by omega),Array.getElem?_toList]at this;obtain⟨x,hx⟩:∃x,vals[k]? =some x:=⟨_,ae (by rw[h.len];exact hk)⟩;rw[cell_of_row _ _ _ _ _ _ h3,<-e,this,hx];rfl):G:=h
theorem ank {G:Prop}(h:G:=by
 intro u hu;simp only[aE,List.not_mem_nil,or_false]at hu;rcases hu with rfl|rfl|rfl<;>rfl):G:=h
theorem anl {G:Prop}(h:G:=by
 have HN:=hI (ji bO fS);clear fS;go_wp2;go_ret;exact⟨by rw[HN.o];rfl,HB.o _⟩):G:=h
theorem anm {G:Prop}(h:G:=by
 rintro e X (⟨rfl,⟨h1,h2⟩,_⟩|⟨k,_,rfl,h1,h2⟩)
 ·rw[bE]at h2;exact⟨by rw[h2],h1⟩
 ·exact⟨by rw[h2],h1⟩):G:=h
theorem ann {G:Prop}(h:G:=by
 cases c1:fX n 0 19
 all_goals
  have fw:=hI c1;clear c1
  go_enter Tryz.func169,Tryz.ntmps169
  go_wp2_with (go_at_call 151;refine(eQ _ _ _ _).mono ?_;rintro e w' ⟨rfl,dR⟩;rw[dR,fw.o];clear dR w')
  go_ret;exact⟨rfl,cg.o⟩):G:=h
theorem ano {G:Prop}(h:G:=by
 refine this.mono λe X' hc=>hc.elim (fun⟨a1,a2,a3⟩=>.inl ⟨a1,⟨?_,h.2.trans a3⟩,a3⟩) .inr;rw[lL ua,<-aG];exact a2):G:=h
theorem anp {G:Prop}(h:G:=by
 rintro e w3 ⟨rfl,cP⟩;have fT:=hI (ag cR.o cP lR);clear cP;go_wp2;go_ret;exact⟨by rw[HV.o];rfl,fT.o⟩):G:=h
theorem anq {G:Prop}(h:G:=by
 unfold ez fA at hp;simp only[ak]at hp;exact bu hp.1.1.1.1.1.2):G:=h
theorem anr {G:Prop}(h:G:=by
 go_enter Tryz.func132,Tryz.ntmps132
 go_wp2_with fail
 refine aM (by kernel_rfl) (by kernel_rfl) ?_
 repeat go_big_quiet_step (fail)
 refine wpQuiet_nil ?_;intro w2 bD;go_wp2;go_ret;exact⟨by rw[HV.o];rfl,bD⟩):G:=h
theorem ans {G:Prop}(h:G:=by
 rw[hs]at bZ;have HC:=hI bZ;clear hs bZ
 go_wp2_with fail
 refine HC.o.mono ?_;rintro e w2 ⟨rfl,bD⟩;have cR:=hI (ag HB.o bD lR);clear bD c0 c1 c2;go_wp2;go_ret;exact⟨by rw[HF.o];rfl,cR.o⟩):G:=h
theorem ant {G:Prop}(h:G:=by
 go_upto_region 1 with fail
 rw[<-T6.o]
 go_wp2_with fail
 refine fw.o.mono ?_;rintro e w3 ⟨rfl,cP⟩;have kG:=hI (ag cR.o cP lR);clear cP x0 x1 x2 zx;go_wp2
 go_ret2
 exact⟨kG.o,rfl⟩):G:=h
theorem anu {G:Prop}(h:G:=by
 rintro e w2 ⟨rfl,hb⟩;have cR:=hI (ag kV.o hb lR);clear hb;go_wp2;go_ret;exact⟨rfl,cR.o⟩):G:=h
theorem anv {G:Prop}(h:G:=by
 rintro e w3 ⟨rfl,hb⟩;have fT:=hI (ag cR.o hb lR);clear hb;go_wp2;go_ret;exact⟨rfl,fT.o⟩):G:=h
theorem anw {G:Prop}(h:G:=by
 intro jj u Sy;rw[Addr.add_lit,a8,cell_of_row _ _ _ _ _ _ kI.o,aF];exact Sy):G:=h
theorem anx {G:Prop}(h:G:=by
 refine⟨dW.1,hk _ _ (.inl rfl) dW.2.1,dW.2.2.1,?_⟩;rcases dW.2.2.2 with hn|⟨g',cap,cur,e,oG,hg,rest⟩
 ·exact .inl hn
 ·exact .inr ⟨g',cap,cur,e,oG,hk _ _ (.inr (by rw[e];rfl)) hg,rest⟩):G:=h
theorem anz {G:Prop}(h:G:=by
 simp only[aL,Obj.cells.injEq]at h2;exact eC h2.2.1.symm):G:=h
theorem anA {G:Prop}(h:G:=by
 have H30:=hI (aI ZZ);clear ZZ;go_wp2
 go_round
 case rel=>exact⟨k+1,by omega,by go_num,λj hj=>if h:j=k then h ▸ H30.o else dK.o j (by omega)⟩
 case measure=>simp[intOf];omega):G:=h
theorem anB {G:Prop}(h:G:=by
 have HY:=hI fS;clear fS;go_wp2
 go_roundw
 case rel=>exact⟨k+1,by omega,rfl,λj hj NI=>if h:j=k then by subst h;exact HY.o else dK.o j (by omega) NI⟩
 case measure=>simp;omega):G:=h
theorem anC {G:Prop}(h:G:=by
 have fK:k=t.k.len:=by omega
 have Bg:Hd (ew (dA ds vv) t=true):=hI (by rw[o8 (by rw[<-fK];exact dK.o)];exact FU.o);clear hb hh fK;go_wp2;go_ret;exact⟨by rw[Bg.o];rfl,HB.o⟩):G:=h
theorem anD {G:Prop}(h:G:=by
 go_enter Tryz.func187,Tryz.ntmps187
 go_wp2_with (go_at_call 176;refine(qV _ _ _ _).mono ?_;rintro e w' ⟨rfl,dR⟩;rw[dR,fw.o];clear dR w')
 go_ret;exact⟨by rw[HV.o];rfl,cg.o⟩):G:=h
theorem anE {G:Prop}(h:G:=by
 obtain⟨p,hp,rfl⟩:=aN.1 hx;have:=hr i hi p hp;exact ih p (h.wf.parts _ hf p hp) (by omega)):G:=h
theorem anF {G:Prop}(h:G:=by
 rintro e X (⟨rfl,⟨h1,h2⟩,_⟩|⟨k,_,rfl,h1,h2⟩)
 ·rw[List.take_of_length_le (by rw[Fo.jg];exact lR)]at h2;exact⟨by rw[h2],h1⟩
 ·exact⟨by rw[h2],h1⟩):G:=h
theorem anG {G:Prop}(h:G:=by
 go_round
 case rel=>exact⟨k+1,by omega,by go_num,λj hj NI=>if h:j=k then by subst h;exact HY2.o else dK.o j (by omega) NI⟩
 case measure=>simp[intOf];omega):G:=h
theorem anH {G:Prop}(h:G:=by
 have UR:(isAgg T).run P w=.ok false w:=by
  unfold isAgg;rw[bB,run_underlying hT w]
  rfl
 unfold part;rw[bB,UR,bg];simp only[bF,if_false,hx]
 rfl):G:=h
theorem anI {G:Prop}(h:G:=by
 unfold Builtin.delete_;simp only[aF,cF,cG];simp only[bB,run_underlying hT w,mQ h1,bg,hK.check,run_findKey hK k es.toList M w h2,ha,sK _ h1,Sem.run_pure]):G:=h
theorem anJ {G:Prop}(h:G:=by
 go_wp2
 go_round
 case rel=>exact⟨k+1,by omega,by go_num,λj hj=>if h:j=k then h ▸ HE.o else dK.o j (by omega)⟩
 case measure=>simp[intOf];omega):G:=h
theorem anK {G:Prop}(h:G:=by
 refine wpQuiet_nil ?_;intro w5 fQ;have jP:=hI (ag xp.o fQ lR);clear fQ d1 d2 d3 d4 d5;go_wp2;go_ret;exact⟨by rw[xu.o];rfl,jP.o⟩):G:=h
theorem anL {G:Prop}(h:G:=by
 rintro e w' ⟨rfl,r',BB,o9,hg,hp,_,hm⟩;have pG:=hm.toV;exact⟨h.kp pG,rfl,r',BB,o9,uv,up,h.graph pG hg (hp.ael h.sep.left.left h.uq)⟩):G:=h
theorem anM {G:Prop}(h:G:=by
 go_enter Tryz.func169,Tryz.ntmps169
 go_wp2;go_ret;exact⟨rfl,cg.o⟩):G:=h
theorem anN {G:Prop}(h:G:=by
 have fK:k=F.length:=by omega
 subst fK;have HN:=hI (yn.o dK.o);clear hb;go_wp2;go_ret;exact⟨by rw[HN.o];rfl,HB.o⟩):G:=h
theorem anO {G:Prop}(h:G:=by
 rintro e w2 ⟨rfl,bD⟩;have cR:=hI (ag cg.o bD lR);clear bD c0;go_wp2;go_ret;exact⟨by rw[HV.o];rfl,cR.o⟩):G:=h
theorem anP {G:Prop}(h:G:=by
 have jP:=hI (ag xp.o fQ lR);clear fQ c0 c1 c2 r0 r1 r2 r3 r4 r5;go_wp2;go_ret;exact⟨by rw[xu.o];rfl,jP.o⟩):G:=h
theorem anQ {G:Prop}(h:G:=by
 have:k=n:=by omega
 subst this;have CS:=hI hj;clear hj fK;go_wp2;go_ret;exact .inl ⟨rfl,CS.o,Se.o⟩):G:=h
theorem anR {G:Prop}(h:G:=by
 simp only[aL,Obj.cells.injEq]at hc;exact ay hc.2.1 (by decide)):G:=h
theorem anS {G:Prop}(h:G:=by
 exact dI (jP.o.trans (HF.o.toBelow (n:=w.heap.size) (by have:=eO.o;omega) (λb e=>by omega))) (by have:=eO.o;omega) _):G:=h
theorem anT {G:Prop}(h:G:=by
 obtain⟨es,c,AL⟩:=hm.obj;rw[AL]at ho;cases ho;exact hb.same _ _ (λe=>by subst e;rw[hq]at AL;cases AL) AL):G:=h
theorem anU {G:Prop}(h:G:=by
 unfold iz;cases look v x with
 |some m=>exact Nat.le_succ _
 |none=>show(g++[_]).length<=_;rw[dS];exact lR):G:=h
theorem anV {G:Prop}(h:G:=by
 obtain rfl:i=g.length:=by omega
 rw[iO,hv]at hm;cases hm):G:=h
theorem anW {G:Prop}(h:G:=by
 rcases h.new with rfl|⟨q1,rfl,h1⟩
 ·exact hr
 ·intro e1;cases e1;have:=(gE e).1;omega):G:=h
theorem anX {G:Prop}(h:G:=by
 rw[au _ _ _ _ hq,au _ _ _ _ hq,au _ _ _ _ hq,au _ _ _ _ hq]):G:=h
theorem anY {G:Prop}(h:G:=by
 show look ((n,S.g.length)::S.env) y=some m;rw[dn,ah (λe2=>by rw[<-e2,e]at hm;cases hm)];exact hm):G:=h
theorem anZ {G:Prop}(h:G:=by
 go_enter Tryz.func82,Tryz.ntmps82
 go_wp2;go_ret;exact⟨Fix.cB cR.o,.inr ⟨Hq.o,rfl⟩⟩):G:=h
theorem an0 {G:Prop}(h:G:=by
 rintro e W' ⟨rfl,rfl⟩;exact⟨rfl,r,gv,ps,hg,jy.refl _ _,⟨rfl,h1,h2⟩,m_.refl _ _ _ _⟩):G:=h
theorem an1 {G:Prop}(h:G:=by
 rcases h'.new with rfl|⟨q1,rfl,h1⟩
 ·exact h.new
 ·exact .inr ⟨q1,rfl,ai h.size h1⟩):G:=h
theorem an2 {G:Prop}(h:G:=by
 go_enter Tryz.func106,Tryz.ntmps106
 go_wp2;go_ret;exact⟨by rw[HN.o];rfl,P9.o _ rfl⟩):G:=h
theorem an3 {G:Prop}(h:G:=by
 rw[t_];have:=List.of_mem_zip hq;exact⟨hw.parts _ sC _ this.1,hw.parts _ uF _ this.2⟩):G:=h
theorem an4 {G:Prop}(h:G:=by
 rw[hV];exact mJ.keep λb o hS h=>(au _ _ _ _ (by have:=hS.1;have:=Wk.o;simp;omega)).trans h):G:=h
theorem an5 {G:Prop}(h:G:=by
 rw[bX k (by omega)];show some (Value.int .i64 (cN (cX vl) k))=_;rw[ky,ae bO,<-WA];rfl):G:=h
theorem an6 {G:Prop}(h:G:=by
 go_enter Tryz.func101,Tryz.ntmps101
 go_wp2;go_ret;exact⟨by rw[HV.o];rfl,cg.o⟩):G:=h
theorem an7 {G:Prop}(h:G:=by
 unfold bS;rw[bo (by omega),Nat.add_sub_cancel_left]):G:=h
theorem an8 {G:Prop}(h:G:=by
 go_enter Tryz.func93,Tryz.ntmps93
 go_wp2;go_ret;exact⟨by rw[HV.o];rfl,cg.o⟩):G:=h
theorem an9 {G:Prop}(h:G:=by
 go_enter Tryz.func83,Tryz.ntmps83
 go_wp2;go_ret;exact⟨by rw[HN.o];rfl,cR.o⟩):G:=h
theorem an_ {G:Prop}(h:G:=by
 have:t.one.list.all (dq s)=dq s t:=by unfold Nd.one Fo.list Fo.list;simp
 rw[this]):G:=h
theorem aoa {G:Prop}(h:G:=by
 rintro(h|h|h)
 ·exact .inr (.inl h)
 ·exact .inl h
 ·exact .inr (.inr h)):G:=h
theorem aob {G:Prop}(h:G:=by
 rw[hq]at hu;simp only[aL,Obj.cells.injEq]at hu;exact ay hu.2.1 (by decide)):G:=h
theorem aoc {G:Prop}(h:G:=by
 obtain⟨cur,hc,_⟩:=hg.ey e.symm;rw[hc]at ho;cases ho;exact hn.2 rfl):G:=h
theorem aod {G:Prop}(h:G:=by
 rw[az,az];have:(if a=8 then[n]else[]).length<=1:=by split<;>simp
 omega):G:=h
theorem aoe {G:Prop}(h:G:=by
 go_ret2
 exact⟨yV.o,_,by rw[HF.o];rfl,λh=>by rw[HF.o]at h;cases h⟩):G:=h
theorem aof {G:Prop}(h:G:=by
 exact ai (List.length_filter_le _ _) (by rw[List.length_range];exact lR)):G:=h
theorem aog {G:Prop}(h:G:=by
 rw[hg.fW]at hc;simp only[aL,Obj.cells.injEq]at hc;exact h3 hc.2.1):G:=h
theorem aoh {G:Prop}(h:G:=by
 clear h1 h8;go_wp2;go_ret;exact⟨by rw[HT.o,HV.o];rfl,HB.o⟩):G:=h
theorem aoi {G:Prop}(h:G:=by
 unfold vh;simp only[List.any_eq_true,ak,b_];exact⟨r,hr,Jh,kH⟩):G:=h
theorem aoj {G:Prop}(h:G:=by
 rw[<-he,aG]at h;have:=List.append_cancel_left h;simpa using this):G:=h
theorem aok {G:Prop}(h:G:=by
 refine qK hK (jY.o _ rJ.o.gp rJ.o.low) λhHeld=> ?_;clear hK K;refine wpAnyH_ready (rs:=[3]) (by kernel_rfl) (by simp) ?_;refine AllReadyH.cons (o:=⟨some 48,.call ⟨.value (.func 73),#[.tmp 45,.tmp 46,.tmp 47],#[107,26,113]⟩,3,"graph.go:206",#[⟨0,.data⟩,⟨1,.data⟩,⟨2,.data⟩],none⟩) rfl (λK hK=> ?_) AllReadyH.nil;go_simp;refine(Uq.o _ _ _ rJ.o).mono ?_;rintro e V3 ⟨rfl,hu,hf⟩;have lZ:=hI (rJ.o.call hu hf);clear hu hf hHeld;refine qK hK (jY.o _ lZ.o.gp lZ.o.low) λhHeld=> ?_;clear hK K;refine wpAnyH_ready (rs:=[7]) (by kernel_rfl) (by simp) ?_;refine AllReadyH.cons (o:=⟨some 52,.call ⟨.value (.func 73),#[.tmp 49,.tmp 50,.tmp 51],#[107,26,113]⟩,3,"graph.go:206",#[⟨4,.data⟩,⟨5,.data⟩,⟨6,.data⟩,⟨3,.chain⟩],none⟩) rfl (λK hK=> ?_) AllReadyH.nil;go_simp;refine(J_.o _ _ _ lZ.o).mono ?_;rintro e V4 ⟨rfl,hu,hf⟩;have oU:=hI (lZ.o.call hu hf);clear hu hf hHeld;exact amh):G:=h
theorem aol {G:Prop}(h:G:=by
 have h0:0<=n/\n<=((s.bj.length:Nat):Int)-1:=by unfold fX at c1;simpa using c1
 obtain⟨k,rfl⟩:∃k:Nat,n=k:=⟨n.toNat,by omega⟩;have hk:k<s.bj.length:=by omega
 obtain⟨b,off,cap,he,_,x0,x1,_⟩:=fJ HF.o cg.o hk;cases he;have fw:=hI c1;rw[c1,bw,aU]at hv;clear c1 h0 x0;obtain⟨ar,ue⟩:=xE ((bS s.bj k).args);rw[<-ue]at x1 hv;clear ue;have HV:=hI hv;clear hv
 go_enter Tryz.func169,Tryz.ntmps169
 exact amz):G:=h
theorem aom {G:Prop}(h:G:=by
 have c2:wr.cell? ⟨w.heap.size+1+1,0,none⟩=some (.bool false):=by rw[cell_of_row _ _ _ _ _ _ I2.o];rfl
 have f2:wr.frozen? ⟨w.heap.size+1+1,0,none⟩=false:=by simp[World.frozen?,I2.o]
 have z2:=af c2;have Dr:=hI HBI.o;exact amL):G:=h
theorem aon {G:Prop}(h:G:=by
 have c2:w3.cell? ⟨w.heap.size+1+1,0,none⟩=some (.bool false):=by rw[cell_of_row _ _ _ _ _ _ j2];rfl
 have f2:w3.frozen? ⟨w.heap.size+1+1,0,none⟩=false:=by simp[World.frozen?,j2]
 have z2:=af c2;have Dr:=hI pZ;exact amL):G:=h
theorem aoo {G:Prop}(h:G:=by
 have HJ:=hI hj;have h0:(0:Int)<=(k:Int):=by omega
 exact amT):G:=h
theorem aop {G:Prop}(h:G:=by
 have HT:=hI hs;rw[hs]at bZ;have HC:=hI bZ;clear hs bZ
 go_wp2_with fail
 refine HC.o.mono ?_;rintro e w2 ⟨rfl,bD⟩;have cR:=hI (ag HB.o bD lR);have CQ:=hI (cY bD HH.o);clear bD c0 c1 c2;exact amR):G:=h
theorem aoq {G:Prop}(h:G:=by
 have g6:((((dD d.cons 0).len:Nat):Int)+(((dD d.cons 1).len:Nat):Int)==0)=((dD d.cons 0).len+(dD d.cons 1).len==0):=by rw[<-cW];push_cast;rfl
 rw[c5]at g6;clear Ka Ez c4 AI;exact ams):G:=h
theorem aor {G:Prop}(h:G:=by
 have e1:(t.n != 0)=true:=gy c1;have HV:Hd (ew (dA ds vv) t=false):=hI (pQ (by rw[nZ,beq_eq_false_iff_ne.2 c1];rfl));clear c1 nZ;exact amK):G:=h
theorem aos {G:Prop}(h:G:=by
 go_wp2_with fail
 rw[<-wR.o];refine(HW.o _ cg.o).mono ?_;rintro e w2 ⟨rfl,bD⟩;have cR:=hI (ag cg.o bD lR);exact amM):G:=h
theorem aot {G:Prop}(h:G:=by
 refine aM (by kernel_rfl) (by kernel_rfl) ?_
 repeat go_big_quiet_step ((with_reducible exact aH.quiet (Jn.o _)))
 exact amw):G:=h
theorem aou {G:Prop}(h:G:=by
 clear c1 hv
 go_enter Tryz.func169,Tryz.ntmps169
 exact amz):G:=h
theorem aov {G:Prop}(h:G:=by
 have HV:Hd (ew (dA ds vv) t=false):=hI (pQ (by rw[nZ];simpa using c3));clear c1 c3 nZ;exact amK):G:=h
end Go.Proofs.YtnicceekibancaaGreat
