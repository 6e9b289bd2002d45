/- For every problem, every number of solutions that is asked for, and every variable the law DomainSolves of layer 14 answers true, and its arguments read afterwards as they read before; the one listed table of package math/bits is tied to the program's text. No further condition. -/
import Derived.Test.YtdmmegmkdhinjaaGreatDoorLawW
import Derived.Test.YtdmmegmkdhinjaaGreatDoorOpenB
import Derived.Test.YtdmmegmkdhinjaaGreatDoorTie
import Derived.Test.YtdmmegmkdhinjaaGreatDoorCards
import Derived.SevenTiedAt
namespace Go.Proofs.YtdmmegmkdhinjaaGreatDoor
open Go Go.RowKit Go.ChangeShapes Go.WideShapes Go.Deep

set_option maxRecDepth 100000 in
theorem domainSolves_walk {H : Type} {enc : TypeId × Value → H} (W : World) (base : Nat) (v0 v1 v2 : Value) (d0 : DataW H) (p0 : List MemPlace) (k0 : Value.okWide Tryz.prog W .any base 25 v0) (k1 : Value.okWide Tryz.prog W .any base 3 v1) (k2 : Value.okWide Tryz.prog W .any base 3 v2)
    (t0 : DataW.Trod enc Tryz.prog W 0 (fun _ => true) true 25 v0 d0 p0) (f0 : Fits Tryz.prog 25 d0) (hT : Tab W) (h0 : 0 < W.heap.size) :
    Gives Tryz.prog 5 #[v0, v1, v2] W (.bool true) := by
  obtain ⟨dv, rv, p, rfl, hd, hr, hu⟩ := dprob_of k0 t0 f0
  obtain ⟨n, rfl⟩ := okWide_int Tryz.underlying3 k1
  obtain ⟨a, rfl⟩ := okWide_int Tryz.underlying3 k2
  exact domainSolves_any p n a dv rv W hd hr h0 (Nat.le_refl _) hu hT
set_option maxRecDepth 100000 in
theorem domainSolves_row : Rows.DomainSolvesSaid :=
  OpenClaim.holds_of_wide 5 Tryz.f5 rfl rfl rfl rfl rfl rfl rfl ⟨rfl, rfl, rfl, rfl, rfl⟩ rfl rfl rfl rfl rfl (by kernel_rfl) Tryz.func5 (by kernel_rfl)
    (of_decide_eq_true (by kernel_rfl)) (by unfold Func.isWrapper; rw [if_neg (of_decide_eq_false (by kernel_rfl))]; exact ⟨rfl, rfl⟩)
    (fun os started H enc _ => law_lift (s := Rows.domainSolvesSpec) (by kernel_rfl) Tryz.func5 rfl (by kernel_rfl) (by kernel_rfl) (by kernel_rfl)
      (fun H ds hl => by
        match ds, hl with
        | [d1, d2, d3], _ => rfl)
      os started H enc #[.agg #[.slice none 0 0, .slice none 0 0], .int .i64 0, .int .i64 0] (by kernel_rfl) (by kernel_rfl) (by kernel_rfl) (World.shaped_of_RefB (by kernel_rfl) (by kernel_rfl))
      (fun W base args ds ps hval hA hw hT h0 => by
        rw [Tryz.params5] at hval hA hw
        obtain ⟨v0, v1, v2, d0, d1, d2, p0, p1, p2, rfl, rfl, rfl, t0, _, _⟩ := trodAll_three hA
        exact domainSolves_walk W base v0 v1 v2 d0 p0 (hval 0 _ _ rfl rfl) (hval 1 _ _ rfl rfl) (hval 2 _ _ rfl rfl) t0 (Fits.each hw (j := 0) rfl rfl) hT h0))
set_option maxRecDepth 100000 in
theorem domainSolves_card : Rows.DomainSolvesCardSaid :=
  Claim7.holds_tied_plain_at .later [] [.data] true (true, "62637eccdd43875742cfa89d06d6422752d81b440ac9ba6c50d1541d48c0baec") false
    domainSolves_row (fun _ h => by cases h) (by kernel_rfl) (fun _ h => by cases h) domainSolves_row_tie rfl ⟨rfl, rfl⟩ (by kernel_rfl) rfl
    (fun f fn hf hfn => by
      obtain rfl : f = 5 := Option.some.inj ((show Tryz.prog.funcNamed "swingle/swinglelaw14.DomainSolves" = some 5 by kernel_rfl).symm.trans hf) |>.symm
      obtain rfl : fn = Tryz.f5 := (Option.some.inj (Tryz.func5.symm.trans hfn)).symm
      exact ⟨by kernel_rfl, fun j t ht => by
        rw [Tryz.params5] at ht
        have hm : t ∈ [25, 3, 3] := by simpa using Array.mem_of_getElem? ht
        have hall : ([25, 3, 3].all fun u => !Tryz.prog.wantsStandIn u) = true := by kernel_rfl
        exact (show Tryz.prog.wantsStandIn t = false by simpa using List.all_eq_true.1 hall t hm)⟩)
    (by kernel_rfl)
#print axioms domainSolves_card
end Go.Proofs.YtdmmegmkdhinjaaGreatDoor
