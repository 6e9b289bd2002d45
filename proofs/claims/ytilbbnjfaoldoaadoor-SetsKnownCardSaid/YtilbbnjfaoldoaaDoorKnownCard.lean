/- The law SetsKnown of layer 16 answers true; the one listed table of package math/bits is tied to the program's text. No further condition. -/
import Derived.Test.YtilbbnjfaoldoaaDoorKnown
import Derived.Test.YtilbbnjfaoldoaaDoorOpenB
import Derived.Test.YtilbbnjfaoldoaaDoorTie
import Derived.Test.YtilbbnjfaoldoaaDoorCards
import Derived.SevenTiedAt
namespace Go.Proofs.YtilbbnjfaoldoaaDoor
open Go Go.RowKit Go.ChangeShapes Go.WideShapes Go.Deep

theorem trodAll_none {H : Type} {enc : TypeId × Value → H} {P : Program} {w : World} {r : Bool} {a : Array Value} {ds : List (DataW H)} {ps : List MemPlace} (h : DataW.TrodAll enc P w 0 (fun _ => true) r (#[] : Array TypeId).toList a.toList ds ps) : a = #[] := by
  obtain ⟨l⟩ := a
  match l, ds, h with
  | [], [], _ => rfl
set_option maxRecDepth 100000 in
theorem setsKnown_row : Rows.SetsKnownSaid :=
  OpenClaim.holds_of_wide 7 Tryd.f7 rfl rfl rfl rfl rfl rfl rfl ⟨rfl, rfl, rfl, rfl, rfl⟩ rfl rfl rfl rfl rfl (by kernel_rfl) Tryd.func7 (by kernel_rfl)
    (of_decide_eq_true (by kernel_rfl)) (by unfold Func.isWrapper; rw [if_neg (of_decide_eq_false (by kernel_rfl))]; exact ⟨rfl, rfl⟩)
    (fun os started H enc _ => law_lift (s := Rows.setsKnownSpec) (by kernel_rfl) Tryd.func7 rfl (by kernel_rfl) (by kernel_rfl) (by kernel_rfl)
      (fun H ds hl => by
        match ds, hl with
        | [], _ => rfl)
      os started H enc #[] (by kernel_rfl) (by kernel_rfl) (by kernel_rfl) (World.shaped_of_RefB (by kernel_rfl) (by kernel_rfl))
      (fun W base args ds ps hval hA hw hT h0 => by
        rw [Tryd.params7] at hval hA hw
        obtain rfl := trodAll_none hA
        exact setsKnown_any W hT h0))
set_option maxRecDepth 100000 in
theorem setsKnown_card : Rows.SetsKnownCardSaid :=
  Claim7.holds_tied_plain_at .later [] [.data] true (true, "b5fe606be6afc5decc392c6cb8e3934bed14341d384051f14c84f3663dd04cc4") true
    setsKnown_row (fun _ h => by cases h) (by kernel_rfl) (fun _ h => by cases h) setsKnown_row_tie rfl ⟨rfl, rfl⟩ (by kernel_rfl) rfl
    (fun f fn hf hfn => by
      obtain rfl : f = 7 := Option.some.inj ((show Tryd.prog.funcNamed "swingle/swinglelaw16.SetsKnown" = some 7 by kernel_rfl).symm.trans hf) |>.symm
      obtain rfl : fn = Tryd.f7 := (Option.some.inj (Tryd.func7.symm.trans hfn)).symm
      exact ⟨by kernel_rfl, fun j t ht => by
        rw [Tryd.params7] at ht
        simp at ht⟩)
    (by kernel_rfl)
#print axioms setsKnown_card
end Go.Proofs.YtilbbnjfaoldoaaDoor
