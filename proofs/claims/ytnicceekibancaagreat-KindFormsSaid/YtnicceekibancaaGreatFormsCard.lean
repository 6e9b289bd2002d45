/- For every list of data types, type and module the law KindForms of layer 3 answers true, and its arguments read afterwards as they read before. No further condition. -/
import Derived.Test.YtnicceekibancaaGreatBZ
import Derived.Test.YtnicceekibancaaGreatBAK
set_option linter.all false
set_option maxRecDepth 100000
set_option maxHeartbeats 8000000
namespace Go.Proofs.YtnicceekibancaaGreat
section
open Go Go.ChangeShapes Go.Deep Go.RowKit Go.WideShapes
theorem Tryz.j1:laidOutB Tryz.prog=true:=Tryz.laidOut
theorem Tryz.j2:mapsRowed Tryz.prog=true:=by kernel_rfl
theorem Tryz.j7:Tryz.prog.plainKeys=true:=by kernel_rfl
theorem Tryz.j8:Tryz.prog.stopsHeard=true:=by kernel_rfl
theorem Tryz.j9:Tryz.prog.mayEnter=true:=by kernel_rfl
theorem Tryz.j10:Tryz.prog.liftsFinal=Rows.kindFormsRow.lifted:=by kernel_rfl
theorem Tryz.j11:Tryz.prog.make=some Rows.kindFormsRow.make:=by kernel_rfl
theorem YZ:Tryz.prog.inPlace 11=Rows.kindFormsRow.inPlace:=by kernel_rfl
theorem Y5:Tryz.prog.unfollowed 11=Rows.kindFormsRow.unfollowed:=by kernel_rfl
theorem Y6:Tryz.prog.recurses 11=Rows.kindFormsRow.recurses:=by kernel_rfl
theorem Y7:Tryz.prog.varsNamed 11=Rows.kindFormsRow.named:=by kernel_rfl
theorem J5:joinedFacts Tryz.prog 11 Tryz.f11 Rows.kindFormsSpec Rows.kindFormsRow=true:=by
 unfold joinedFacts;rw[Tryz.j1,Tryz.j2,Tryz.j7,Tryz.j8,Tryz.j9,Tryz.j10,Tryz.j11,YZ,Y5,Y6,Y7]
 kernel_rfl
theorem kindForms_row:Rows.KindFormsSaid:=
 OpenClaim.holds_of_wide 11 Tryz.f11 rfl rfl rfl rfl rfl rfl rfl ⟨rfl,rfl,rfl,rfl,rfl⟩ rfl rfl rfl rfl rfl (by kernel_rfl) Tryz.func11 J5
  (bu (by kernel_rfl)) (by unfold Func.isWrapper;rw[ah (of_decide_eq_false (by kernel_rfl))];exact⟨rfl,rfl⟩)
  (λos started H enc _=>YY (s:=Rows.kindFormsSpec) (by kernel_rfl) Tryz.func11 rfl (by kernel_rfl) (by kernel_rfl) (by kernel_rfl)
   (λH ds c=>by
    match ds,c with
    |[d1,d2,d3],_=>rfl)
   os started H enc ⟨#[],#[.slice none 0 0,.agg #[.int .i64 0,.int .i64 0,.slice none 0 0],.agg #[.slice none 0 0,.slice none 0 0,.slice none 0 0,.slice none 0 0]],[]⟩ (by kernel_rfl) (by kernel_rfl) (by kernel_rfl) (by kernel_rfl) (by kernel_rfl)
   (λW base args ds ps a b hw=>by
    rw[Tryz.params11]at a b hw;obtain⟨v0,v1,v2,d0,d1,d2,g,i,k,rfl,rfl,rfl,t0,t1,t2⟩:=trodAll_three b;obtain⟨l,d⟩:=acM (a 0 _ _ rfl rfl) t0 (Fits.each hw (j:=0) rfl rfl);obtain⟨t,e⟩:=ag_ Tryz.adr (a 1 _ _ rfl rfl) t1 (Fits.each hw (j:=1) rfl rfl);obtain⟨m,f⟩:=aha (a 2 _ _ rfl rfl) t2 (Fits.each hw (j:=2) rfl rfl);exact GB l t m v0 v1 v2 W d e f))
#print axioms kindForms_row
end
end Go.Proofs.YtnicceekibancaaGreat
