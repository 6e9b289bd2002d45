/- For every problem, every number of a rule, place and value the law DomainSupports of layer 14 answers true, and its arguments read afterwards as they read before; the one listed table of package math/bits is tied to the program's text. No further condition. -/
import Derived.Test.YtdmmegmkdhinjaaDoorLawA
import Derived.Test.YtdmmegmkdhinjaaDoorOpenB
import Derived.Test.YtdmmegmkdhinjaaDoorTie
import Derived.Test.YtdmmegmkdhinjaaDoorCards
import Derived.SevenTiedAt
namespace Go.Proofs.YtdmmegmkdhinjaaDoor
open Go Go.RowKit Go.ChangeShapes Go.WideShapes Go.Deep

set_option maxRecDepth 100000 in
theorem domainSupports_walk {H : Type} {enc : TypeId × Value → H} (W : World) (base : Nat) (v0 v1 v2 v3 : Value) (d0 : DataW H) (p0 : List MemPlace) (k0 : Value.okWide Tryd.prog W .any base 25 v0) (k1 : Value.okWide Tryd.prog W .any base 3 v1) (k2 : Value.okWide Tryd.prog W .any base 3 v2) (k3 : Value.okWide Tryd.prog W .any base 3 v3)
    (t0 : DataW.Trod enc Tryd.prog W 0 (fun _ => true) true 25 v0 d0 p0) (f0 : Fits Tryd.prog 25 d0) (hT : Tab W) (h0 : 0 < W.heap.size) :
    Gives Tryd.prog 3 #[v0, v1, v2, v3] W (.bool true) := by
  obtain ⟨dv, rv, p, rfl, hd, hr, hu⟩ := dprob_of k0 t0 f0
  obtain ⟨n, rfl⟩ := okWide_int Tryd.underlying3 k1
  obtain ⟨a, rfl⟩ := okWide_int Tryd.underlying3 k2
  obtain ⟨v, rfl⟩ := okWide_int Tryd.underlying3 k3
  exact domainSupports_any p n a v dv rv W hd hr h0 (Nat.le_refl _) hu hT
set_option maxRecDepth 100000 in
theorem domainSupports_row : Rows.DomainSupportsSaid :=
  OpenClaim.holds_of_wide 3 Tryd.f3 rfl rfl rfl rfl rfl rfl rfl ⟨rfl, rfl, rfl, rfl, rfl⟩ rfl rfl rfl rfl rfl (by kernel_rfl) Tryd.func3 (by kernel_rfl)
    (of_decide_eq_true (by kernel_rfl)) (by unfold Func.isWrapper; rw [if_neg (of_decide_eq_false (by kernel_rfl))]; exact ⟨rfl, rfl⟩)
    (fun os started H enc _ => law_lift (s := Rows.domainSupportsSpec) (by kernel_rfl) Tryd.func3 rfl (by kernel_rfl) (by kernel_rfl) (by kernel_rfl)
      (fun H ds hl => by
        match ds, hl with
        | [d1, d2, d3, d4], _ => rfl)
      os started H enc #[.agg #[.slice none 0 0, .slice none 0 0], .int .i64 0, .int .i64 0, .int .i64 0] (by kernel_rfl) (by kernel_rfl) (by kernel_rfl) (World.shaped_of_RefB (by kernel_rfl) (by kernel_rfl))
      (fun W base args ds ps hval hA hw hT h0 => by
        rw [Tryd.params3] at hval hA hw
        obtain ⟨v0, v1, v2, v3, d0, d1, d2, d3, p0, p1, p2, p3, rfl, rfl, rfl, t0, _, _, _⟩ := trodAll_four hA
        exact domainSupports_walk W base v0 v1 v2 v3 d0 p0 (hval 0 _ _ rfl rfl) (hval 1 _ _ rfl rfl) (hval 2 _ _ rfl rfl) (hval 3 _ _ rfl rfl) t0 (Fits.each hw (j := 0) rfl rfl) hT h0))
set_option maxRecDepth 100000 in
theorem domainSupports_card : Rows.DomainSupportsCardSaid :=
  Claim7.holds_tied_plain_at .later [] [.data] true (true, "e150d8a73f83e9e5254fd62071fee29dbc98cfe7593135170ac1bbf9adfaaa09") false
    domainSupports_row (fun _ h => by cases h) (by kernel_rfl) (fun _ h => by cases h) domainSupports_row_tie rfl ⟨rfl, rfl⟩ (by kernel_rfl) rfl
    (fun f fn hf hfn => by
      obtain rfl : f = 3 := Option.some.inj ((show Tryd.prog.funcNamed "swingle/swinglelaw14.DomainSupports" = some 3 by kernel_rfl).symm.trans hf) |>.symm
      obtain rfl : fn = Tryd.f3 := (Option.some.inj (Tryd.func3.symm.trans hfn)).symm
      exact ⟨by kernel_rfl, fun j t ht => by
        rw [Tryd.params3] at ht
        have hm : t ∈ [25, 3, 3, 3] := by simpa using Array.mem_of_getElem? ht
        have hall : ([25, 3, 3, 3].all fun u => !Tryd.prog.wantsStandIn u) = true := by kernel_rfl
        exact (show Tryd.prog.wantsStandIn t = false by simpa using List.all_eq_true.1 hall t hm)⟩)
    (by kernel_rfl)
#print axioms domainSupports_card
end Go.Proofs.YtdmmegmkdhinjaaDoor
