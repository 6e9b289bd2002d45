/- The law DomainKnown of layer 14 answers true; the one listed table of package math/bits is tied to the program's text. No further condition. -/
import Derived.Test.YtdmmegmkdhinjaaDoorLawK
import Derived.Test.YtdmmegmkdhinjaaDoorOpenB
import Derived.Test.YtdmmegmkdhinjaaDoorTie
import Derived.Test.YtdmmegmkdhinjaaDoorCards
import Derived.SevenTiedAt
namespace Go.Proofs.YtdmmegmkdhinjaaDoor
open Go Go.RowKit Go.ChangeShapes Go.WideShapes Go.Deep

set_option maxRecDepth 100000 in
theorem domainKnown_row : Rows.DomainKnownSaid :=
  OpenClaim.holds_of_wide 6 Tryd.f6 rfl rfl rfl rfl rfl rfl rfl ⟨rfl, rfl, rfl, rfl, rfl⟩ rfl rfl rfl rfl rfl (by kernel_rfl) Tryd.func6 (by kernel_rfl)
    (of_decide_eq_true (by kernel_rfl)) (by unfold Func.isWrapper; rw [if_neg (of_decide_eq_false (by kernel_rfl))]; exact ⟨rfl, rfl⟩)
    (fun os started H enc _ => law_lift (s := Rows.domainKnownSpec) (by kernel_rfl) Tryd.func6 rfl (by kernel_rfl) (by kernel_rfl) (by kernel_rfl)
      (fun H ds hl => by
        match ds, hl with
        | [], _ => rfl)
      os started H enc #[] (by kernel_rfl) (by kernel_rfl) (by kernel_rfl) (World.shaped_of_RefB (by kernel_rfl) (by kernel_rfl))
      (fun W base args ds ps hval hA hw hT h0 => by
        rw [Tryd.params6] at hval hA hw
        obtain ⟨rfl, _, _⟩ := trodAll_none hA
        exact domainKnown_any W hT h0))
set_option maxRecDepth 100000 in
theorem domainKnown_card : Rows.DomainKnownCardSaid :=
  Claim7.holds_tied_plain_at .later [] [.data] true (true, "e150d8a73f83e9e5254fd62071fee29dbc98cfe7593135170ac1bbf9adfaaa09") false
    domainKnown_row (fun _ h => by cases h) (by kernel_rfl) (fun _ h => by cases h) domainKnown_row_tie rfl ⟨rfl, rfl⟩ (by kernel_rfl) rfl
    (fun f fn hf hfn => by
      obtain rfl : f = 6 := Option.some.inj ((show Tryd.prog.funcNamed "swingle/swinglelaw14.DomainKnown" = some 6 by kernel_rfl).symm.trans hf) |>.symm
      obtain rfl : fn = Tryd.f6 := (Option.some.inj (Tryd.func6.symm.trans hfn)).symm
      exact ⟨by kernel_rfl, fun j t ht => by
        rw [Tryd.params6] at ht
        simp at ht⟩)
    (by kernel_rfl)
#print axioms domainKnown_card
end Go.Proofs.YtdmmegmkdhinjaaDoor
