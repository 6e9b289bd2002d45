/- For every problem the law SetsPropagates of layer 16 answers true, and its argument reads afterwards as it read before; the one listed table of package math/bits is tied to the program's text. No further condition. -/
import Derived.Test.YtilbbnjfaoldoaaDoorLawD
import Derived.Test.YtilbbnjfaoldoaaDoorOpenB
import Derived.Test.YtilbbnjfaoldoaaDoorTie
import Derived.Test.YtilbbnjfaoldoaaDoorCards
import Derived.SevenTiedAt
namespace Go.Proofs.YtilbbnjfaoldoaaDoor
open Go Go.RowKit Go.ChangeShapes Go.WideShapes Go.Deep

set_option maxRecDepth 100000 in
theorem setsPropagates_walk {H : Type} {enc : TypeId × Value → H} (W : World) (base : Nat) (v0 : Value) (d0 : DataW H) (p0 : List MemPlace) (k0 : Value.okWide Tryd.prog W .any base 25 v0)
    (t0 : DataW.Trod enc Tryd.prog W 0 (fun _ => true) true 25 v0 d0 p0) (f0 : Fits Tryd.prog 25 d0) (hT : Tab W) (h0 : 0 < W.heap.size) :
    Gives Tryd.prog 4 #[v0] W (.bool true) := by
  obtain ⟨bv, rv, p, rfl, hb, hr, hu⟩ := prob_of k0 t0 f0
  exact setsPropagates_any p bv rv W hb hr h0 (Nat.le_refl _) hu hT
set_option maxRecDepth 100000 in
theorem setsPropagates_row : Rows.SetsPropagatesSaid :=
  OpenClaim.holds_of_wide 4 Tryd.f4 rfl rfl rfl rfl rfl rfl rfl ⟨rfl, rfl, rfl, rfl, rfl⟩ rfl rfl rfl rfl rfl (by kernel_rfl) Tryd.func4 (by kernel_rfl)
    (of_decide_eq_true (by kernel_rfl)) (by unfold Func.isWrapper; rw [if_neg (of_decide_eq_false (by kernel_rfl))]; exact ⟨rfl, rfl⟩)
    (fun os started H enc _ => law_lift (s := Rows.setsPropagatesSpec) (by kernel_rfl) Tryd.func4 rfl (by kernel_rfl) (by kernel_rfl) (by kernel_rfl)
      (fun H ds hl => by
        match ds, hl with
        | [d1], _ => rfl)
      os started H enc #[.agg #[.slice none 0 0, .slice none 0 0]] (by kernel_rfl) (by kernel_rfl) (by kernel_rfl) (World.shaped_of_RefB (by kernel_rfl) (by kernel_rfl))
      (fun W base args ds ps hval hA hw hT h0 => by
        rw [Tryd.params4] at hval hA hw
        obtain ⟨v0, d0, rfl, rfl, t0⟩ := trodAll_one hA
        exact setsPropagates_walk W base v0 d0 _ (hval 0 _ _ rfl rfl) t0 (Fits.each hw (j := 0) rfl rfl) hT h0))
set_option maxRecDepth 100000 in
theorem setsPropagates_card : Rows.SetsPropagatesCardSaid :=
  Claim7.holds_tied_plain_at .later [] [.data] true (true, "b5fe606be6afc5decc392c6cb8e3934bed14341d384051f14c84f3663dd04cc4") true
    setsPropagates_row (fun _ h => by cases h) (by kernel_rfl) (fun _ h => by cases h) setsPropagates_row_tie rfl ⟨rfl, rfl⟩ (by kernel_rfl) rfl
    (fun f fn hf hfn => by
      obtain rfl : f = 4 := Option.some.inj ((show Tryd.prog.funcNamed "swingle/swinglelaw16.SetsPropagates" = some 4 by kernel_rfl).symm.trans hf) |>.symm
      obtain rfl : fn = Tryd.f4 := (Option.some.inj (Tryd.func4.symm.trans hfn)).symm
      exact ⟨by kernel_rfl, fun j t ht => by
        rw [Tryd.params4] at ht
        have hm : t ∈ [25] := by simpa using Array.mem_of_getElem? ht
        have hall : ([25].all fun u => !Tryd.prog.wantsStandIn u) = true := by kernel_rfl
        exact (show Tryd.prog.wantsStandIn t = false by simpa using List.all_eq_true.1 hall t hm)⟩)
    (by kernel_rfl)
#print axioms setsPropagates_card
end Go.Proofs.YtilbbnjfaoldoaaDoor
