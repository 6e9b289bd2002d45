/- For every problem and every list of numbers the law SetsOrder of layer 16 answers true, and its arguments read afterwards as they read before; the one listed table of package math/bits is tied to the program's text. No further condition. -/
import Derived.Test.YtilbbnjfaoldoaaDoorLawH
import Derived.Test.YtilbbnjfaoldoaaDoorOpenB
import Derived.Test.YtilbbnjfaoldoaaDoorTie
import Derived.Test.YtilbbnjfaoldoaaDoorCards
import Derived.SevenTiedAt
namespace Go.Proofs.YtilbbnjfaoldoaaDoor
open Go Go.RowKit Go.ChangeShapes Go.WideShapes Go.Deep

set_option maxRecDepth 100000 in
theorem setsOrder_walk {H : Type} {enc : TypeId × Value → H} (W : World) (base : Nat) (v0 v1 : Value) (d0 d1 : DataW H) (p0 p1 : List MemPlace) (k0 : Value.okWide Tryd.prog W .any base 25 v0) (k1 : Value.okWide Tryd.prog W .any base 26 v1)
    (t0 : DataW.Trod enc Tryd.prog W 0 (fun _ => true) true 25 v0 d0 p0) (t1 : DataW.Trod enc Tryd.prog W 0 (fun _ => true) true 26 v1 d1 p1) (f0 : Fits Tryd.prog 25 d0) (f1 : Fits Tryd.prog 26 d1) (hT : Tab W) (h0 : 0 < W.heap.size) :
    Gives Tryd.prog 11 #[v0, v1] W (.bool true) := by
  obtain ⟨bv, rv, p, rfl, hb, hr, hu⟩ := prob_of k0 t0 f0
  obtain ⟨xs, hx, hxu⟩ := us_arg k1 t1 f1
  exact setsOrder_any p xs bv rv v1 W hb hr hx h0 (Nat.le_refl _) hu hxu hT
set_option maxRecDepth 100000 in
theorem setsOrder_row : Rows.SetsOrderSaid :=
  OpenClaim.holds_of_wide 11 Tryd.f11 rfl rfl rfl rfl rfl rfl rfl ⟨rfl, rfl, rfl, rfl, rfl⟩ rfl rfl rfl rfl rfl (by kernel_rfl) Tryd.func11 (by kernel_rfl)
    (of_decide_eq_true (by kernel_rfl)) (by unfold Func.isWrapper; rw [if_neg (of_decide_eq_false (by kernel_rfl))]; exact ⟨rfl, rfl⟩)
    (fun os started H enc _ => law_lift (s := Rows.setsOrderSpec) (by kernel_rfl) Tryd.func11 rfl (by kernel_rfl) (by kernel_rfl) (by kernel_rfl)
      (fun H ds hl => by
        match ds, hl with
        | [d1, d2], _ => rfl)
      os started H enc #[.agg #[.slice none 0 0, .slice none 0 0], .slice none 0 0] (by kernel_rfl) (by kernel_rfl) (by kernel_rfl) (World.shaped_of_RefB (by kernel_rfl) (by kernel_rfl))
      (fun W base args ds ps hval hA hw hT h0 => by
        rw [Tryd.params11] at hval hA hw
        obtain ⟨v0, v1, d0, d1, p0, p1, rfl, rfl, rfl, t0, t1⟩ := trodAll_two hA
        exact setsOrder_walk W base v0 v1 d0 d1 p0 p1 (hval 0 _ _ rfl rfl) (hval 1 _ _ rfl rfl) t0 t1 (Fits.each hw (j := 0) rfl rfl) (Fits.each hw (j := 1) rfl rfl) hT h0))
set_option maxRecDepth 100000 in
theorem setsOrder_card : Rows.SetsOrderCardSaid :=
  Claim7.holds_tied_plain_at .later [] [.data] true (true, "b5fe606be6afc5decc392c6cb8e3934bed14341d384051f14c84f3663dd04cc4") true
    setsOrder_row (fun _ h => by cases h) (by kernel_rfl) (fun _ h => by cases h) setsOrder_row_tie rfl ⟨rfl, rfl⟩ (by kernel_rfl) rfl
    (fun f fn hf hfn => by
      obtain rfl : f = 11 := Option.some.inj ((show Tryd.prog.funcNamed "swingle/swinglelaw16.SetsOrder" = some 11 by kernel_rfl).symm.trans hf) |>.symm
      obtain rfl : fn = Tryd.f11 := (Option.some.inj (Tryd.func11.symm.trans hfn)).symm
      exact ⟨by kernel_rfl, fun j t ht => by
        rw [Tryd.params11] at ht
        have hm : t ∈ [25, 26] := by simpa using Array.mem_of_getElem? ht
        have hall : ([25, 26].all fun u => !Tryd.prog.wantsStandIn u) = true := by kernel_rfl
        exact (show Tryd.prog.wantsStandIn t = false by simpa using List.all_eq_true.1 hall t hm)⟩)
    (by kernel_rfl)
#print axioms setsOrder_card
end Go.Proofs.YtilbbnjfaoldoaaDoor
