/-
  NARROWER THAN 'FOR EVERY INPUT', by the rows' own cells (each row's printed sentence says how): SetsHolds: laid · SetsPropagates: laid · SetsSolves: laid · SetsFollows: laid · SetsKnown: laid · SetsVerifies: laid · SetsSound: laid · SetsReasons: laid · SetsOrder: laid.
  DERIVED. THE GIVEN ROWS OF THIS SEAT. 9 by the template 'for every input the law returns true; each argument reads behind the call as it read before'; 0 by the template 'total and deterministic' (their statements: YtilbbnjfaoldoaaDoorTotals.lean).
  GIVEN WITH THE SEED: the statements are not yours to turn. If you find one false, say at which input.
  Laid BY PROGRAM, IN A SANDBOX (cutbox-rows.mjs): the forced cells as the released guide's own fill.sh prints them over the translation 146c8768d849090c… (all of the seat's roots in one cut). By AI agents, Wed Nov 11 2026. No macro, syntax, notation, axiom, sorry.
-/
import Derived.Test.YtilbbnjfaoldoaaDoorChecked
import GoSem.Claim
import GoSem.ClaimJoined
import GoSem.ClaimMapViews
import Derived.JoinedTies
import Derived.KernelRfl
namespace Go.Proofs.YtilbbnjfaoldoaaDoor
/- THE CELL 'sum', in the pinned program and in every row, IS THE sha256 OF THE DUMP (.gsa) THAT YtilbbnjfaoldoaaDoorProg.lean LOADS. Nothing in Lean hashes anything: it is a label: what it is worth is what the hold of that sum in a sandbox is worth. -/
noncomputable def Tryd.pinned : Pinned := { name := "ytilbbnjfaoldoaadoor", sum := "146c8768d849090c80f9ea50ebc792c022e8f532a64c42d8340d331aaa6c2d84", checked := Tryd.checked }
namespace Rows
def none {H : Type} : Left H := { results := [], args := [] }

/- WHAT THE LISTED PACKAGE-LEVEL VARIABLES READ AS WHEN THE CALL BEGINS. Each datum BY PROGRAM (the guide's laid-datum.mjs) off the statement by which the dump's own 'gosem.cut.vars' lays the variable. In a bare row this is a premise. The card (YtilbbnjfaoldoaaDoorCards.lean) ties it to the program's text. -/
def laid_math_bits_deBruijn64tab {H : Type} : DataW H := .agg [.lit (.int .u8 0), .lit (.int .u8 1), .lit (.int .u8 56), .lit (.int .u8 2), .lit (.int .u8 57), .lit (.int .u8 49), .lit (.int .u8 28), .lit (.int .u8 3), .lit (.int .u8 61), .lit (.int .u8 58), .lit (.int .u8 42), .lit (.int .u8 50), .lit (.int .u8 38), .lit (.int .u8 29), .lit (.int .u8 17), .lit (.int .u8 4), .lit (.int .u8 62), .lit (.int .u8 47), .lit (.int .u8 59), .lit (.int .u8 36), .lit (.int .u8 45), .lit (.int .u8 43), .lit (.int .u8 51), .lit (.int .u8 22), .lit (.int .u8 53), .lit (.int .u8 39), .lit (.int .u8 33), .lit (.int .u8 30), .lit (.int .u8 24), .lit (.int .u8 18), .lit (.int .u8 12), .lit (.int .u8 5), .lit (.int .u8 63), .lit (.int .u8 55), .lit (.int .u8 48), .lit (.int .u8 27), .lit (.int .u8 60), .lit (.int .u8 41), .lit (.int .u8 37), .lit (.int .u8 16), .lit (.int .u8 46), .lit (.int .u8 35), .lit (.int .u8 44), .lit (.int .u8 21), .lit (.int .u8 52), .lit (.int .u8 32), .lit (.int .u8 23), .lit (.int .u8 11), .lit (.int .u8 54), .lit (.int .u8 26), .lit (.int .u8 40), .lit (.int .u8 15), .lit (.int .u8 34), .lit (.int .u8 20), .lit (.int .u8 31), .lit (.int .u8 10), .lit (.int .u8 25), .lit (.int .u8 14), .lit (.int .u8 19), .lit (.int .u8 9), .lit (.int .u8 13), .lit (.int .u8 8), .lit (.int .u8 7), .lit (.int .u8 6)]

/-- 'swinglelaw16.SetsHolds': WHATEVER THE INPUT: true; the input reads as it did. -/
def setsHoldsSpec : ChangeSpec := { name := "setsHolds", fn := fun _ => fun
  | [d1, d2] => { results := [.lit (.bool true)], args := [d1, d2] }
  | _ => none }
def setsHoldsRow : OpenClaim := { program := "ytilbbnjfaoldoaadoor", sum := "146c8768d849090c80f9ea50ebc792c022e8f532a64c42d8340d331aaa6c2d84", func := "swingle/swinglelaw16.SetsHolds", spec := "setsHolds", unfollowed := true, recurses := true, named := ["math/bits.deBruijn64tab"], apart := false, laid := [("math/bits.deBruijn64tab", laid_math_bits_deBruijn64tab)] }
def SetsHoldsSaid : Prop := setsHoldsRow.holds Tryd.pinned (OpenSpec.ofChange setsHoldsSpec)

/-- ITS FALSE NEIGHBOUR: 'it returns false'. Refute it at one input. -/
def setsHoldsWrong : ChangeSpec := { name := "setsHolds", fn := fun _ => fun
  | [d1, d2] => { results := [.lit (.bool false)], args := [d1, d2] }
  | _ => none }
def SetsHoldsWrongFalsely : Prop := setsHoldsRow.holds Tryd.pinned (OpenSpec.ofChange setsHoldsWrong)

/-- 'swinglelaw16.SetsPropagates': WHATEVER THE INPUT: true; the input reads as it did. -/
def setsPropagatesSpec : ChangeSpec := { name := "setsPropagates", fn := fun _ => fun
  | [d] => { results := [.lit (.bool true)], args := [d] }
  | _ => none }
def setsPropagatesRow : OpenClaim := { program := "ytilbbnjfaoldoaadoor", sum := "146c8768d849090c80f9ea50ebc792c022e8f532a64c42d8340d331aaa6c2d84", func := "swingle/swinglelaw16.SetsPropagates", spec := "setsPropagates", unfollowed := true, recurses := true, named := ["math/bits.deBruijn64tab"], apart := false, laid := [("math/bits.deBruijn64tab", laid_math_bits_deBruijn64tab)] }
def SetsPropagatesSaid : Prop := setsPropagatesRow.holds Tryd.pinned (OpenSpec.ofChange setsPropagatesSpec)

/-- ITS FALSE NEIGHBOUR: 'it returns false'. Refute it at one input. -/
def setsPropagatesWrong : ChangeSpec := { name := "setsPropagates", fn := fun _ => fun
  | [d] => { results := [.lit (.bool false)], args := [d] }
  | _ => none }
def SetsPropagatesWrongFalsely : Prop := setsPropagatesRow.holds Tryd.pinned (OpenSpec.ofChange setsPropagatesWrong)

/-- 'swinglelaw16.SetsSolves': WHATEVER THE INPUT: true; the input reads as it did. -/
def setsSolvesSpec : ChangeSpec := { name := "setsSolves", fn := fun _ => fun
  | [d1, d2] => { results := [.lit (.bool true)], args := [d1, d2] }
  | _ => none }
def setsSolvesRow : OpenClaim := { program := "ytilbbnjfaoldoaadoor", sum := "146c8768d849090c80f9ea50ebc792c022e8f532a64c42d8340d331aaa6c2d84", func := "swingle/swinglelaw16.SetsSolves", spec := "setsSolves", unfollowed := true, recurses := true, named := ["math/bits.deBruijn64tab"], apart := false, laid := [("math/bits.deBruijn64tab", laid_math_bits_deBruijn64tab)] }
def SetsSolvesSaid : Prop := setsSolvesRow.holds Tryd.pinned (OpenSpec.ofChange setsSolvesSpec)

/-- ITS FALSE NEIGHBOUR: 'it returns false'. Refute it at one input. -/
def setsSolvesWrong : ChangeSpec := { name := "setsSolves", fn := fun _ => fun
  | [d1, d2] => { results := [.lit (.bool false)], args := [d1, d2] }
  | _ => none }
def SetsSolvesWrongFalsely : Prop := setsSolvesRow.holds Tryd.pinned (OpenSpec.ofChange setsSolvesWrong)

/-- 'swinglelaw16.SetsFollows': WHATEVER THE INPUT: true; the input reads as it did. -/
def setsFollowsSpec : ChangeSpec := { name := "setsFollows", fn := fun _ => fun
  | [d1, d2] => { results := [.lit (.bool true)], args := [d1, d2] }
  | _ => none }
def setsFollowsRow : OpenClaim := { program := "ytilbbnjfaoldoaadoor", sum := "146c8768d849090c80f9ea50ebc792c022e8f532a64c42d8340d331aaa6c2d84", func := "swingle/swinglelaw16.SetsFollows", spec := "setsFollows", unfollowed := true, recurses := true, named := ["math/bits.deBruijn64tab"], apart := false, laid := [("math/bits.deBruijn64tab", laid_math_bits_deBruijn64tab)] }
def SetsFollowsSaid : Prop := setsFollowsRow.holds Tryd.pinned (OpenSpec.ofChange setsFollowsSpec)

/-- ITS FALSE NEIGHBOUR: 'it returns false'. Refute it at one input. -/
def setsFollowsWrong : ChangeSpec := { name := "setsFollows", fn := fun _ => fun
  | [d1, d2] => { results := [.lit (.bool false)], args := [d1, d2] }
  | _ => none }
def SetsFollowsWrongFalsely : Prop := setsFollowsRow.holds Tryd.pinned (OpenSpec.ofChange setsFollowsWrong)

/-- 'swinglelaw16.SetsKnown': WHATEVER THE INPUT: true; the input reads as it did. -/
def setsKnownSpec : ChangeSpec := { name := "setsKnown", fn := fun _ => fun
  | [] => { results := [.lit (.bool true)], args := [] }
  | _ => none }
def setsKnownRow : OpenClaim := { program := "ytilbbnjfaoldoaadoor", sum := "146c8768d849090c80f9ea50ebc792c022e8f532a64c42d8340d331aaa6c2d84", func := "swingle/swinglelaw16.SetsKnown", spec := "setsKnown", unfollowed := true, recurses := true, named := ["math/bits.deBruijn64tab"], apart := false, laid := [("math/bits.deBruijn64tab", laid_math_bits_deBruijn64tab)] }
def SetsKnownSaid : Prop := setsKnownRow.holds Tryd.pinned (OpenSpec.ofChange setsKnownSpec)

/-- ITS FALSE NEIGHBOUR: 'it returns false'. Refute it at one input. -/
def setsKnownWrong : ChangeSpec := { name := "setsKnown", fn := fun _ => fun
  | [] => { results := [.lit (.bool false)], args := [] }
  | _ => none }
def SetsKnownWrongFalsely : Prop := setsKnownRow.holds Tryd.pinned (OpenSpec.ofChange setsKnownWrong)

/-- 'swinglelaw16.SetsVerifies': WHATEVER THE INPUT: true; the input reads as it did. -/
def setsVerifiesSpec : ChangeSpec := { name := "setsVerifies", fn := fun _ => fun
  | [d1, d2] => { results := [.lit (.bool true)], args := [d1, d2] }
  | _ => none }
def setsVerifiesRow : OpenClaim := { program := "ytilbbnjfaoldoaadoor", sum := "146c8768d849090c80f9ea50ebc792c022e8f532a64c42d8340d331aaa6c2d84", func := "swingle/swinglelaw16.SetsVerifies", spec := "setsVerifies", unfollowed := true, recurses := true, named := ["math/bits.deBruijn64tab"], apart := false, laid := [("math/bits.deBruijn64tab", laid_math_bits_deBruijn64tab)] }
def SetsVerifiesSaid : Prop := setsVerifiesRow.holds Tryd.pinned (OpenSpec.ofChange setsVerifiesSpec)

/-- ITS FALSE NEIGHBOUR: 'it returns false'. Refute it at one input. -/
def setsVerifiesWrong : ChangeSpec := { name := "setsVerifies", fn := fun _ => fun
  | [d1, d2] => { results := [.lit (.bool false)], args := [d1, d2] }
  | _ => none }
def SetsVerifiesWrongFalsely : Prop := setsVerifiesRow.holds Tryd.pinned (OpenSpec.ofChange setsVerifiesWrong)

/-- 'swinglelaw16.SetsSound': WHATEVER THE INPUT: true; the input reads as it did. -/
def setsSoundSpec : ChangeSpec := { name := "setsSound", fn := fun _ => fun
  | [d1, d2] => { results := [.lit (.bool true)], args := [d1, d2] }
  | _ => none }
def setsSoundRow : OpenClaim := { program := "ytilbbnjfaoldoaadoor", sum := "146c8768d849090c80f9ea50ebc792c022e8f532a64c42d8340d331aaa6c2d84", func := "swingle/swinglelaw16.SetsSound", spec := "setsSound", unfollowed := true, recurses := true, named := ["math/bits.deBruijn64tab"], apart := false, laid := [("math/bits.deBruijn64tab", laid_math_bits_deBruijn64tab)] }
def SetsSoundSaid : Prop := setsSoundRow.holds Tryd.pinned (OpenSpec.ofChange setsSoundSpec)

/-- ITS FALSE NEIGHBOUR: 'it returns false'. Refute it at one input. -/
def setsSoundWrong : ChangeSpec := { name := "setsSound", fn := fun _ => fun
  | [d1, d2] => { results := [.lit (.bool false)], args := [d1, d2] }
  | _ => none }
def SetsSoundWrongFalsely : Prop := setsSoundRow.holds Tryd.pinned (OpenSpec.ofChange setsSoundWrong)

/-- 'swinglelaw16.SetsReasons': WHATEVER THE INPUT: true; the input reads as it did. -/
def setsReasonsSpec : ChangeSpec := { name := "setsReasons", fn := fun _ => fun
  | [d1, d2] => { results := [.lit (.bool true)], args := [d1, d2] }
  | _ => none }
def setsReasonsRow : OpenClaim := { program := "ytilbbnjfaoldoaadoor", sum := "146c8768d849090c80f9ea50ebc792c022e8f532a64c42d8340d331aaa6c2d84", func := "swingle/swinglelaw16.SetsReasons", spec := "setsReasons", unfollowed := true, recurses := true, named := ["math/bits.deBruijn64tab"], apart := false, laid := [("math/bits.deBruijn64tab", laid_math_bits_deBruijn64tab)] }
def SetsReasonsSaid : Prop := setsReasonsRow.holds Tryd.pinned (OpenSpec.ofChange setsReasonsSpec)

/-- ITS FALSE NEIGHBOUR: 'it returns false'. Refute it at one input. -/
def setsReasonsWrong : ChangeSpec := { name := "setsReasons", fn := fun _ => fun
  | [d1, d2] => { results := [.lit (.bool false)], args := [d1, d2] }
  | _ => none }
def SetsReasonsWrongFalsely : Prop := setsReasonsRow.holds Tryd.pinned (OpenSpec.ofChange setsReasonsWrong)

/-- 'swinglelaw16.SetsOrder': WHATEVER THE INPUT: true; the input reads as it did. -/
def setsOrderSpec : ChangeSpec := { name := "setsOrder", fn := fun _ => fun
  | [d1, d2] => { results := [.lit (.bool true)], args := [d1, d2] }
  | _ => none }
def setsOrderRow : OpenClaim := { program := "ytilbbnjfaoldoaadoor", sum := "146c8768d849090c80f9ea50ebc792c022e8f532a64c42d8340d331aaa6c2d84", func := "swingle/swinglelaw16.SetsOrder", spec := "setsOrder", inPlace := ["slices.overlaps[swingle/api.SetsRule]"], unfollowed := true, recurses := true, named := ["math/bits.deBruijn64tab"], apart := false, laid := [("math/bits.deBruijn64tab", laid_math_bits_deBruijn64tab)] }
def SetsOrderSaid : Prop := setsOrderRow.holds Tryd.pinned (OpenSpec.ofChange setsOrderSpec)

/-- ITS FALSE NEIGHBOUR: 'it returns false'. Refute it at one input. -/
def setsOrderWrong : ChangeSpec := { name := "setsOrder", fn := fun _ => fun
  | [d1, d2] => { results := [.lit (.bool false)], args := [d1, d2] }
  | _ => none }
def SetsOrderWrongFalsely : Prop := setsOrderRow.holds Tryd.pinned (OpenSpec.ofChange setsOrderWrong)

/- THE SECOND FORM. 'bulk': how many values and letters a reading holds, each counted each time it is reached (what is shared counts as often as it is met; a slice's spare places count too). A statement '..UptoSaid' is the law's where the arguments, and the package variables that the reading takes, are together of bulk at most 1048576: NARROWER than '..Said'. Prove '..Said' where nothing that the law and all that it calls make is longer than what came in: it says more and counts as full. Else prove '..UptoSaid'. A law counts once. -/
mutual
def uptoBulk {H : Type} : DataW H → Nat
  | .lit (.string bytes) => bytes.length + 1
  | .lit _ => 1
  | .nil => 1
  | .ptr d => uptoBulk d + 1
  | .slice elems spare => uptoBulkAll elems + uptoBulkAll spare + 1
  | .agg parts => uptoBulkAll parts + 1
  | .iface _ d => uptoBulk d + 1
  | .map entries => uptoBulkEntries entries + 1
  | .held _ => 1
def uptoBulkAll {H : Type} : List (DataW H) → Nat
  | [] => 0
  | d :: r => uptoBulk d + uptoBulkAll r
def uptoBulkEntries {H : Type} : List (Lit × DataW H) → Nat
  | [] => 0
  | x :: r => uptoBulkEntry x + uptoBulkEntries r
def uptoBulkEntry {H : Type} : Lit × DataW H → Nat
  | (.string bytes, d) => bytes.length + uptoBulk d + 1
  | (_, d) => uptoBulk d + 1
 end
def uptoSmall : (H : Type) → List (DataW H) → Bool := fun _ ds => decide (uptoBulkAll ds ≤ 1048576)
def OpenSpec.upto (s : _root_.Go.ChangeSpec) : _root_.Go.OpenSpec := { _root_.Go.OpenSpec.ofChange s with cond := some uptoSmall }

/-- 'swinglelaw16.SetsHolds', WHERE WHAT IT READS IS OF BULK AT MOST 1048576: true; the input reads as it did. -/
def setsHoldsUptoRow : OpenClaim := { program := "ytilbbnjfaoldoaadoor", sum := "146c8768d849090c80f9ea50ebc792c022e8f532a64c42d8340d331aaa6c2d84", func := "swingle/swinglelaw16.SetsHolds", spec := "setsHolds", unfollowed := true, recurses := true, named := ["math/bits.deBruijn64tab"], apart := false, laid := [("math/bits.deBruijn64tab", laid_math_bits_deBruijn64tab)], narrowed := true }
def SetsHoldsUptoSaid : Prop := setsHoldsUptoRow.holds Tryd.pinned (OpenSpec.upto setsHoldsSpec)

/-- 'swinglelaw16.SetsPropagates', WHERE WHAT IT READS IS OF BULK AT MOST 1048576: true; the input reads as it did. -/
def setsPropagatesUptoRow : OpenClaim := { program := "ytilbbnjfaoldoaadoor", sum := "146c8768d849090c80f9ea50ebc792c022e8f532a64c42d8340d331aaa6c2d84", func := "swingle/swinglelaw16.SetsPropagates", spec := "setsPropagates", unfollowed := true, recurses := true, named := ["math/bits.deBruijn64tab"], apart := false, laid := [("math/bits.deBruijn64tab", laid_math_bits_deBruijn64tab)], narrowed := true }
def SetsPropagatesUptoSaid : Prop := setsPropagatesUptoRow.holds Tryd.pinned (OpenSpec.upto setsPropagatesSpec)

/-- 'swinglelaw16.SetsSolves', WHERE WHAT IT READS IS OF BULK AT MOST 1048576: true; the input reads as it did. -/
def setsSolvesUptoRow : OpenClaim := { program := "ytilbbnjfaoldoaadoor", sum := "146c8768d849090c80f9ea50ebc792c022e8f532a64c42d8340d331aaa6c2d84", func := "swingle/swinglelaw16.SetsSolves", spec := "setsSolves", unfollowed := true, recurses := true, named := ["math/bits.deBruijn64tab"], apart := false, laid := [("math/bits.deBruijn64tab", laid_math_bits_deBruijn64tab)], narrowed := true }
def SetsSolvesUptoSaid : Prop := setsSolvesUptoRow.holds Tryd.pinned (OpenSpec.upto setsSolvesSpec)

/-- 'swinglelaw16.SetsFollows', WHERE WHAT IT READS IS OF BULK AT MOST 1048576: true; the input reads as it did. -/
def setsFollowsUptoRow : OpenClaim := { program := "ytilbbnjfaoldoaadoor", sum := "146c8768d849090c80f9ea50ebc792c022e8f532a64c42d8340d331aaa6c2d84", func := "swingle/swinglelaw16.SetsFollows", spec := "setsFollows", unfollowed := true, recurses := true, named := ["math/bits.deBruijn64tab"], apart := false, laid := [("math/bits.deBruijn64tab", laid_math_bits_deBruijn64tab)], narrowed := true }
def SetsFollowsUptoSaid : Prop := setsFollowsUptoRow.holds Tryd.pinned (OpenSpec.upto setsFollowsSpec)

/-- 'swinglelaw16.SetsKnown', WHERE WHAT IT READS IS OF BULK AT MOST 1048576: true; the input reads as it did. -/
def setsKnownUptoRow : OpenClaim := { program := "ytilbbnjfaoldoaadoor", sum := "146c8768d849090c80f9ea50ebc792c022e8f532a64c42d8340d331aaa6c2d84", func := "swingle/swinglelaw16.SetsKnown", spec := "setsKnown", unfollowed := true, recurses := true, named := ["math/bits.deBruijn64tab"], apart := false, laid := [("math/bits.deBruijn64tab", laid_math_bits_deBruijn64tab)], narrowed := true }
def SetsKnownUptoSaid : Prop := setsKnownUptoRow.holds Tryd.pinned (OpenSpec.upto setsKnownSpec)

/-- 'swinglelaw16.SetsVerifies', WHERE WHAT IT READS IS OF BULK AT MOST 1048576: true; the input reads as it did. -/
def setsVerifiesUptoRow : OpenClaim := { program := "ytilbbnjfaoldoaadoor", sum := "146c8768d849090c80f9ea50ebc792c022e8f532a64c42d8340d331aaa6c2d84", func := "swingle/swinglelaw16.SetsVerifies", spec := "setsVerifies", unfollowed := true, recurses := true, named := ["math/bits.deBruijn64tab"], apart := false, laid := [("math/bits.deBruijn64tab", laid_math_bits_deBruijn64tab)], narrowed := true }
def SetsVerifiesUptoSaid : Prop := setsVerifiesUptoRow.holds Tryd.pinned (OpenSpec.upto setsVerifiesSpec)

/-- 'swinglelaw16.SetsSound', WHERE WHAT IT READS IS OF BULK AT MOST 1048576: true; the input reads as it did. -/
def setsSoundUptoRow : OpenClaim := { program := "ytilbbnjfaoldoaadoor", sum := "146c8768d849090c80f9ea50ebc792c022e8f532a64c42d8340d331aaa6c2d84", func := "swingle/swinglelaw16.SetsSound", spec := "setsSound", unfollowed := true, recurses := true, named := ["math/bits.deBruijn64tab"], apart := false, laid := [("math/bits.deBruijn64tab", laid_math_bits_deBruijn64tab)], narrowed := true }
def SetsSoundUptoSaid : Prop := setsSoundUptoRow.holds Tryd.pinned (OpenSpec.upto setsSoundSpec)

/-- 'swinglelaw16.SetsReasons', WHERE WHAT IT READS IS OF BULK AT MOST 1048576: true; the input reads as it did. -/
def setsReasonsUptoRow : OpenClaim := { program := "ytilbbnjfaoldoaadoor", sum := "146c8768d849090c80f9ea50ebc792c022e8f532a64c42d8340d331aaa6c2d84", func := "swingle/swinglelaw16.SetsReasons", spec := "setsReasons", unfollowed := true, recurses := true, named := ["math/bits.deBruijn64tab"], apart := false, laid := [("math/bits.deBruijn64tab", laid_math_bits_deBruijn64tab)], narrowed := true }
def SetsReasonsUptoSaid : Prop := setsReasonsUptoRow.holds Tryd.pinned (OpenSpec.upto setsReasonsSpec)

/-- 'swinglelaw16.SetsOrder', WHERE WHAT IT READS IS OF BULK AT MOST 1048576: true; the input reads as it did. -/
def setsOrderUptoRow : OpenClaim := { program := "ytilbbnjfaoldoaadoor", sum := "146c8768d849090c80f9ea50ebc792c022e8f532a64c42d8340d331aaa6c2d84", func := "swingle/swinglelaw16.SetsOrder", spec := "setsOrder", inPlace := ["slices.overlaps[swingle/api.SetsRule]"], unfollowed := true, recurses := true, named := ["math/bits.deBruijn64tab"], apart := false, laid := [("math/bits.deBruijn64tab", laid_math_bits_deBruijn64tab)], narrowed := true }
def SetsOrderUptoSaid : Prop := setsOrderUptoRow.holds Tryd.pinned (OpenSpec.upto setsOrderSpec)

end Rows
end Go.Proofs.YtilbbnjfaoldoaaDoor
