/-
  NARROWER THAN 'FOR EVERY INPUT', by the rows' own cells (each row's printed sentence says how): KindUnifies: loops · KindGroups: loops · KindInfers: loops · KindAccepts: loops · KindUnifier: loops · KindMost: loops · KindPut: loops · KindFewer: loops · KindForms: loops · KindTypes: loops · KindUses: loops.
  DERIVED. THE GIVEN ROWS OF THIS SEAT. 11 by the template 'for every input the law returns true; each argument reads behind the call as it read before'; 0 by the template 'total and deterministic' (their statements: YtnicceekibancaaGreatTotals.lean).
  GIVEN WITH THE SEED: the statements are not yours to turn. If you find one false, say at which input.
  Laid BY PROGRAM, IN A SANDBOX (cutbox-rows.mjs): the forced cells as the released guide's own fill.sh prints them over the translation e22aa0b2adaf72c9… (all of the seat's roots in one cut). By AI agents, Wed Nov 11 2026. No macro, syntax, notation, axiom, sorry.
-/
import Derived.Test.YtnicceekibancaaGreatChecked
import GoSem.Claim
import GoSem.ClaimJoined
import GoSem.ClaimMapViews
import Derived.JoinedTies
import Derived.KernelRfl
namespace Go.Proofs.YtnicceekibancaaGreat
/- THE CELL 'sum', in the pinned program and in every row, IS THE sha256 OF THE DUMP (.gsa) THAT YtnicceekibancaaGreatProg.lean LOADS. Nothing in Lean hashes anything: it is a label: what it is worth is what the hold of that sum in a sandbox is worth. -/
noncomputable def Tryz.pinned : Pinned := { name := "ytnicceekibancaagreat", sum := "e22aa0b2adaf72c95f2c94745ceb51f7f4fe2b982c2c1c03c4b23693e3ee91da", checked := Tryz.checked }
namespace Rows
def none {H : Type} : Left H := { results := [], args := [] }

/-- 'swinglelaw03.KindUnifies': WHATEVER THE INPUT: true; the input reads as it did. -/
def kindUnifiesSpec : ChangeSpec := { name := "kindUnifies", fn := fun _ => fun
  | [d1, d2, d3] => { results := [.lit (.bool true)], args := [d1, d2, d3] }
  | _ => none }
def kindUnifiesRow : OpenClaim := { program := "ytnicceekibancaagreat", sum := "e22aa0b2adaf72c95f2c94745ceb51f7f4fe2b982c2c1c03c4b23693e3ee91da", func := "swingle/swinglelaw03.KindUnifies", spec := "kindUnifies", unfollowed := true, recurses := true, loops := true, apart := false }
def KindUnifiesSaid : Prop := kindUnifiesRow.holds Tryz.pinned (OpenSpec.ofChange kindUnifiesSpec)

/-- ITS FALSE NEIGHBOUR: 'it returns false'. Refute it at one input. -/
def kindUnifiesWrong : ChangeSpec := { name := "kindUnifies", fn := fun _ => fun
  | [d1, d2, d3] => { results := [.lit (.bool false)], args := [d1, d2, d3] }
  | _ => none }
def KindUnifiesWrongFalsely : Prop := kindUnifiesRow.holds Tryz.pinned (OpenSpec.ofChange kindUnifiesWrong)

/-- 'swinglelaw03.KindGroups': WHATEVER THE INPUT: true; the input reads as it did. -/
def kindGroupsSpec : ChangeSpec := { name := "kindGroups", fn := fun _ => fun
  | [d] => { results := [.lit (.bool true)], args := [d] }
  | _ => none }
def kindGroupsRow : OpenClaim := { program := "ytnicceekibancaagreat", sum := "e22aa0b2adaf72c95f2c94745ceb51f7f4fe2b982c2c1c03c4b23693e3ee91da", func := "swingle/swinglelaw03.KindGroups", spec := "kindGroups", unfollowed := true, recurses := true, loops := true, apart := false }
def KindGroupsSaid : Prop := kindGroupsRow.holds Tryz.pinned (OpenSpec.ofChange kindGroupsSpec)

/-- ITS FALSE NEIGHBOUR: 'it returns false'. Refute it at one input. -/
def kindGroupsWrong : ChangeSpec := { name := "kindGroups", fn := fun _ => fun
  | [d] => { results := [.lit (.bool false)], args := [d] }
  | _ => none }
def KindGroupsWrongFalsely : Prop := kindGroupsRow.holds Tryz.pinned (OpenSpec.ofChange kindGroupsWrong)

/-- 'swinglelaw03.KindInfers': WHATEVER THE INPUT: true; the input reads as it did. -/
def kindInfersSpec : ChangeSpec := { name := "kindInfers", fn := fun _ => fun
  | [d1, d2] => { results := [.lit (.bool true)], args := [d1, d2] }
  | _ => none }
def kindInfersRow : OpenClaim := { program := "ytnicceekibancaagreat", sum := "e22aa0b2adaf72c95f2c94745ceb51f7f4fe2b982c2c1c03c4b23693e3ee91da", func := "swingle/swinglelaw03.KindInfers", spec := "kindInfers", unfollowed := true, recurses := true, loops := true, apart := false }
def KindInfersSaid : Prop := kindInfersRow.holds Tryz.pinned (OpenSpec.ofChange kindInfersSpec)

/-- ITS FALSE NEIGHBOUR: 'it returns false'. Refute it at one input. -/
def kindInfersWrong : ChangeSpec := { name := "kindInfers", fn := fun _ => fun
  | [d1, d2] => { results := [.lit (.bool false)], args := [d1, d2] }
  | _ => none }
def KindInfersWrongFalsely : Prop := kindInfersRow.holds Tryz.pinned (OpenSpec.ofChange kindInfersWrong)

/-- 'swinglelaw03.KindAccepts': WHATEVER THE INPUT: true; the input reads as it did. -/
def kindAcceptsSpec : ChangeSpec := { name := "kindAccepts", fn := fun _ => fun
  | [d1, d2] => { results := [.lit (.bool true)], args := [d1, d2] }
  | _ => none }
def kindAcceptsRow : OpenClaim := { program := "ytnicceekibancaagreat", sum := "e22aa0b2adaf72c95f2c94745ceb51f7f4fe2b982c2c1c03c4b23693e3ee91da", func := "swingle/swinglelaw03.KindAccepts", spec := "kindAccepts", unfollowed := true, recurses := true, loops := true, apart := false }
def KindAcceptsSaid : Prop := kindAcceptsRow.holds Tryz.pinned (OpenSpec.ofChange kindAcceptsSpec)

/-- ITS FALSE NEIGHBOUR: 'it returns false'. Refute it at one input. -/
def kindAcceptsWrong : ChangeSpec := { name := "kindAccepts", fn := fun _ => fun
  | [d1, d2] => { results := [.lit (.bool false)], args := [d1, d2] }
  | _ => none }
def KindAcceptsWrongFalsely : Prop := kindAcceptsRow.holds Tryz.pinned (OpenSpec.ofChange kindAcceptsWrong)

/-- 'swinglelaw03.KindUnifier': WHATEVER THE INPUT: true; the input reads as it did. -/
def kindUnifierSpec : ChangeSpec := { name := "kindUnifier", fn := fun _ => fun
  | [d1, d2, d3, d4] => { results := [.lit (.bool true)], args := [d1, d2, d3, d4] }
  | _ => none }
def kindUnifierRow : OpenClaim := { program := "ytnicceekibancaagreat", sum := "e22aa0b2adaf72c95f2c94745ceb51f7f4fe2b982c2c1c03c4b23693e3ee91da", func := "swingle/swinglelaw03.KindUnifier", spec := "kindUnifier", unfollowed := true, recurses := true, loops := true, apart := false }
def KindUnifierSaid : Prop := kindUnifierRow.holds Tryz.pinned (OpenSpec.ofChange kindUnifierSpec)

/-- ITS FALSE NEIGHBOUR: 'it returns false'. Refute it at one input. -/
def kindUnifierWrong : ChangeSpec := { name := "kindUnifier", fn := fun _ => fun
  | [d1, d2, d3, d4] => { results := [.lit (.bool false)], args := [d1, d2, d3, d4] }
  | _ => none }
def KindUnifierWrongFalsely : Prop := kindUnifierRow.holds Tryz.pinned (OpenSpec.ofChange kindUnifierWrong)

/-- 'swinglelaw03.KindMost': WHATEVER THE INPUT: true; the input reads as it did. -/
def kindMostSpec : ChangeSpec := { name := "kindMost", fn := fun _ => fun
  | [d1, d2, d3] => { results := [.lit (.bool true)], args := [d1, d2, d3] }
  | _ => none }
def kindMostRow : OpenClaim := { program := "ytnicceekibancaagreat", sum := "e22aa0b2adaf72c95f2c94745ceb51f7f4fe2b982c2c1c03c4b23693e3ee91da", func := "swingle/swinglelaw03.KindMost", spec := "kindMost", unfollowed := true, recurses := true, loops := true, apart := false }
def KindMostSaid : Prop := kindMostRow.holds Tryz.pinned (OpenSpec.ofChange kindMostSpec)

/-- ITS FALSE NEIGHBOUR: 'it returns false'. Refute it at one input. -/
def kindMostWrong : ChangeSpec := { name := "kindMost", fn := fun _ => fun
  | [d1, d2, d3] => { results := [.lit (.bool false)], args := [d1, d2, d3] }
  | _ => none }
def KindMostWrongFalsely : Prop := kindMostRow.holds Tryz.pinned (OpenSpec.ofChange kindMostWrong)

/-- 'swinglelaw03.KindPut': WHATEVER THE INPUT: true; the input reads as it did. -/
def kindPutSpec : ChangeSpec := { name := "kindPut", fn := fun _ => fun
  | [d1, d2, d3, d4] => { results := [.lit (.bool true)], args := [d1, d2, d3, d4] }
  | _ => none }
def kindPutRow : OpenClaim := { program := "ytnicceekibancaagreat", sum := "e22aa0b2adaf72c95f2c94745ceb51f7f4fe2b982c2c1c03c4b23693e3ee91da", func := "swingle/swinglelaw03.KindPut", spec := "kindPut", unfollowed := true, recurses := true, loops := true, apart := false }
def KindPutSaid : Prop := kindPutRow.holds Tryz.pinned (OpenSpec.ofChange kindPutSpec)

/-- ITS FALSE NEIGHBOUR: 'it returns false'. Refute it at one input. -/
def kindPutWrong : ChangeSpec := { name := "kindPut", fn := fun _ => fun
  | [d1, d2, d3, d4] => { results := [.lit (.bool false)], args := [d1, d2, d3, d4] }
  | _ => none }
def KindPutWrongFalsely : Prop := kindPutRow.holds Tryz.pinned (OpenSpec.ofChange kindPutWrong)

/-- 'swinglelaw03.KindFewer': WHATEVER THE INPUT: true; the input reads as it did. -/
def kindFewerSpec : ChangeSpec := { name := "kindFewer", fn := fun _ => fun
  | [d1, d2] => { results := [.lit (.bool true)], args := [d1, d2] }
  | _ => none }
def kindFewerRow : OpenClaim := { program := "ytnicceekibancaagreat", sum := "e22aa0b2adaf72c95f2c94745ceb51f7f4fe2b982c2c1c03c4b23693e3ee91da", func := "swingle/swinglelaw03.KindFewer", spec := "kindFewer", unfollowed := true, recurses := true, loops := true, apart := false }
def KindFewerSaid : Prop := kindFewerRow.holds Tryz.pinned (OpenSpec.ofChange kindFewerSpec)

/-- ITS FALSE NEIGHBOUR: 'it returns false'. Refute it at one input. -/
def kindFewerWrong : ChangeSpec := { name := "kindFewer", fn := fun _ => fun
  | [d1, d2] => { results := [.lit (.bool false)], args := [d1, d2] }
  | _ => none }
def KindFewerWrongFalsely : Prop := kindFewerRow.holds Tryz.pinned (OpenSpec.ofChange kindFewerWrong)

/-- 'swinglelaw03.KindForms': WHATEVER THE INPUT: true; the input reads as it did. -/
def kindFormsSpec : ChangeSpec := { name := "kindForms", fn := fun _ => fun
  | [d1, d2, d3] => { results := [.lit (.bool true)], args := [d1, d2, d3] }
  | _ => none }
def kindFormsRow : OpenClaim := { program := "ytnicceekibancaagreat", sum := "e22aa0b2adaf72c95f2c94745ceb51f7f4fe2b982c2c1c03c4b23693e3ee91da", func := "swingle/swinglelaw03.KindForms", spec := "kindForms", unfollowed := true, recurses := true, loops := true, apart := false }
def KindFormsSaid : Prop := kindFormsRow.holds Tryz.pinned (OpenSpec.ofChange kindFormsSpec)

/-- ITS FALSE NEIGHBOUR: 'it returns false'. Refute it at one input. -/
def kindFormsWrong : ChangeSpec := { name := "kindForms", fn := fun _ => fun
  | [d1, d2, d3] => { results := [.lit (.bool false)], args := [d1, d2, d3] }
  | _ => none }
def KindFormsWrongFalsely : Prop := kindFormsRow.holds Tryz.pinned (OpenSpec.ofChange kindFormsWrong)

/-- 'swinglelaw03.KindTypes': WHATEVER THE INPUT: true; the input reads as it did. -/
def kindTypesSpec : ChangeSpec := { name := "kindTypes", fn := fun _ => fun
  | [d] => { results := [.lit (.bool true)], args := [d] }
  | _ => none }
def kindTypesRow : OpenClaim := { program := "ytnicceekibancaagreat", sum := "e22aa0b2adaf72c95f2c94745ceb51f7f4fe2b982c2c1c03c4b23693e3ee91da", func := "swingle/swinglelaw03.KindTypes", spec := "kindTypes", unfollowed := true, recurses := true, loops := true, apart := false }
def KindTypesSaid : Prop := kindTypesRow.holds Tryz.pinned (OpenSpec.ofChange kindTypesSpec)

/-- ITS FALSE NEIGHBOUR: 'it returns false'. Refute it at one input. -/
def kindTypesWrong : ChangeSpec := { name := "kindTypes", fn := fun _ => fun
  | [d] => { results := [.lit (.bool false)], args := [d] }
  | _ => none }
def KindTypesWrongFalsely : Prop := kindTypesRow.holds Tryz.pinned (OpenSpec.ofChange kindTypesWrong)

/-- 'swinglelaw03.KindUses': WHATEVER THE INPUT: true; the input reads as it did. -/
def kindUsesSpec : ChangeSpec := { name := "kindUses", fn := fun _ => fun
  | [d1, d2] => { results := [.lit (.bool true)], args := [d1, d2] }
  | _ => none }
def kindUsesRow : OpenClaim := { program := "ytnicceekibancaagreat", sum := "e22aa0b2adaf72c95f2c94745ceb51f7f4fe2b982c2c1c03c4b23693e3ee91da", func := "swingle/swinglelaw03.KindUses", spec := "kindUses", unfollowed := true, recurses := true, loops := true, apart := false }
def KindUsesSaid : Prop := kindUsesRow.holds Tryz.pinned (OpenSpec.ofChange kindUsesSpec)

/-- ITS FALSE NEIGHBOUR: 'it returns false'. Refute it at one input. -/
def kindUsesWrong : ChangeSpec := { name := "kindUses", fn := fun _ => fun
  | [d1, d2] => { results := [.lit (.bool false)], args := [d1, d2] }
  | _ => none }
def KindUsesWrongFalsely : Prop := kindUsesRow.holds Tryz.pinned (OpenSpec.ofChange kindUsesWrong)

/- THE SECOND FORM. 'bulk': how many values and letters a reading holds, each counted each time it is reached (what is shared counts as often as it is met; a slice's spare places count too). A statement '..UptoSaid' is the law's where the arguments, and the package variables that the reading takes, are together of bulk at most 1048576: NARROWER than '..Said'. Prove '..Said' where nothing that the law and all that it calls make is longer than what came in: it says more and counts as full. Else prove '..UptoSaid'. A law counts once. -/
mutual
def uptoBulk {H : Type} : DataW H → Nat
  | .lit (.string bytes) => bytes.length + 1
  | .lit _ => 1
  | .nil => 1
  | .ptr d => uptoBulk d + 1
  | .slice elems spare => uptoBulkAll elems + uptoBulkAll spare + 1
  | .agg parts => uptoBulkAll parts + 1
  | .iface _ d => uptoBulk d + 1
  | .map entries => uptoBulkEntries entries + 1
  | .held _ => 1
def uptoBulkAll {H : Type} : List (DataW H) → Nat
  | [] => 0
  | d :: r => uptoBulk d + uptoBulkAll r
def uptoBulkEntries {H : Type} : List (Lit × DataW H) → Nat
  | [] => 0
  | x :: r => uptoBulkEntry x + uptoBulkEntries r
def uptoBulkEntry {H : Type} : Lit × DataW H → Nat
  | (.string bytes, d) => bytes.length + uptoBulk d + 1
  | (_, d) => uptoBulk d + 1
 end
def uptoSmall : (H : Type) → List (DataW H) → Bool := fun _ ds => decide (uptoBulkAll ds ≤ 1048576)
def OpenSpec.upto (s : _root_.Go.ChangeSpec) : _root_.Go.OpenSpec := { _root_.Go.OpenSpec.ofChange s with cond := some uptoSmall }

/-- 'swinglelaw03.KindUnifies', WHERE WHAT IT READS IS OF BULK AT MOST 1048576: true; the input reads as it did. -/
def kindUnifiesUptoRow : OpenClaim := { program := "ytnicceekibancaagreat", sum := "e22aa0b2adaf72c95f2c94745ceb51f7f4fe2b982c2c1c03c4b23693e3ee91da", func := "swingle/swinglelaw03.KindUnifies", spec := "kindUnifies", unfollowed := true, recurses := true, loops := true, apart := false, narrowed := true }
def KindUnifiesUptoSaid : Prop := kindUnifiesUptoRow.holds Tryz.pinned (OpenSpec.upto kindUnifiesSpec)

/-- 'swinglelaw03.KindGroups', WHERE WHAT IT READS IS OF BULK AT MOST 1048576: true; the input reads as it did. -/
def kindGroupsUptoRow : OpenClaim := { program := "ytnicceekibancaagreat", sum := "e22aa0b2adaf72c95f2c94745ceb51f7f4fe2b982c2c1c03c4b23693e3ee91da", func := "swingle/swinglelaw03.KindGroups", spec := "kindGroups", unfollowed := true, recurses := true, loops := true, apart := false, narrowed := true }
def KindGroupsUptoSaid : Prop := kindGroupsUptoRow.holds Tryz.pinned (OpenSpec.upto kindGroupsSpec)

/-- 'swinglelaw03.KindInfers', WHERE WHAT IT READS IS OF BULK AT MOST 1048576: true; the input reads as it did. -/
def kindInfersUptoRow : OpenClaim := { program := "ytnicceekibancaagreat", sum := "e22aa0b2adaf72c95f2c94745ceb51f7f4fe2b982c2c1c03c4b23693e3ee91da", func := "swingle/swinglelaw03.KindInfers", spec := "kindInfers", unfollowed := true, recurses := true, loops := true, apart := false, narrowed := true }
def KindInfersUptoSaid : Prop := kindInfersUptoRow.holds Tryz.pinned (OpenSpec.upto kindInfersSpec)

/-- 'swinglelaw03.KindAccepts', WHERE WHAT IT READS IS OF BULK AT MOST 1048576: true; the input reads as it did. -/
def kindAcceptsUptoRow : OpenClaim := { program := "ytnicceekibancaagreat", sum := "e22aa0b2adaf72c95f2c94745ceb51f7f4fe2b982c2c1c03c4b23693e3ee91da", func := "swingle/swinglelaw03.KindAccepts", spec := "kindAccepts", unfollowed := true, recurses := true, loops := true, apart := false, narrowed := true }
def KindAcceptsUptoSaid : Prop := kindAcceptsUptoRow.holds Tryz.pinned (OpenSpec.upto kindAcceptsSpec)

/-- 'swinglelaw03.KindUnifier', WHERE WHAT IT READS IS OF BULK AT MOST 1048576: true; the input reads as it did. -/
def kindUnifierUptoRow : OpenClaim := { program := "ytnicceekibancaagreat", sum := "e22aa0b2adaf72c95f2c94745ceb51f7f4fe2b982c2c1c03c4b23693e3ee91da", func := "swingle/swinglelaw03.KindUnifier", spec := "kindUnifier", unfollowed := true, recurses := true, loops := true, apart := false, narrowed := true }
def KindUnifierUptoSaid : Prop := kindUnifierUptoRow.holds Tryz.pinned (OpenSpec.upto kindUnifierSpec)

/-- 'swinglelaw03.KindMost', WHERE WHAT IT READS IS OF BULK AT MOST 1048576: true; the input reads as it did. -/
def kindMostUptoRow : OpenClaim := { program := "ytnicceekibancaagreat", sum := "e22aa0b2adaf72c95f2c94745ceb51f7f4fe2b982c2c1c03c4b23693e3ee91da", func := "swingle/swinglelaw03.KindMost", spec := "kindMost", unfollowed := true, recurses := true, loops := true, apart := false, narrowed := true }
def KindMostUptoSaid : Prop := kindMostUptoRow.holds Tryz.pinned (OpenSpec.upto kindMostSpec)

/-- 'swinglelaw03.KindPut', WHERE WHAT IT READS IS OF BULK AT MOST 1048576: true; the input reads as it did. -/
def kindPutUptoRow : OpenClaim := { program := "ytnicceekibancaagreat", sum := "e22aa0b2adaf72c95f2c94745ceb51f7f4fe2b982c2c1c03c4b23693e3ee91da", func := "swingle/swinglelaw03.KindPut", spec := "kindPut", unfollowed := true, recurses := true, loops := true, apart := false, narrowed := true }
def KindPutUptoSaid : Prop := kindPutUptoRow.holds Tryz.pinned (OpenSpec.upto kindPutSpec)

/-- 'swinglelaw03.KindFewer', WHERE WHAT IT READS IS OF BULK AT MOST 1048576: true; the input reads as it did. -/
def kindFewerUptoRow : OpenClaim := { program := "ytnicceekibancaagreat", sum := "e22aa0b2adaf72c95f2c94745ceb51f7f4fe2b982c2c1c03c4b23693e3ee91da", func := "swingle/swinglelaw03.KindFewer", spec := "kindFewer", unfollowed := true, recurses := true, loops := true, apart := false, narrowed := true }
def KindFewerUptoSaid : Prop := kindFewerUptoRow.holds Tryz.pinned (OpenSpec.upto kindFewerSpec)

/-- 'swinglelaw03.KindForms', WHERE WHAT IT READS IS OF BULK AT MOST 1048576: true; the input reads as it did. -/
def kindFormsUptoRow : OpenClaim := { program := "ytnicceekibancaagreat", sum := "e22aa0b2adaf72c95f2c94745ceb51f7f4fe2b982c2c1c03c4b23693e3ee91da", func := "swingle/swinglelaw03.KindForms", spec := "kindForms", unfollowed := true, recurses := true, loops := true, apart := false, narrowed := true }
def KindFormsUptoSaid : Prop := kindFormsUptoRow.holds Tryz.pinned (OpenSpec.upto kindFormsSpec)

/-- 'swinglelaw03.KindTypes', WHERE WHAT IT READS IS OF BULK AT MOST 1048576: true; the input reads as it did. -/
def kindTypesUptoRow : OpenClaim := { program := "ytnicceekibancaagreat", sum := "e22aa0b2adaf72c95f2c94745ceb51f7f4fe2b982c2c1c03c4b23693e3ee91da", func := "swingle/swinglelaw03.KindTypes", spec := "kindTypes", unfollowed := true, recurses := true, loops := true, apart := false, narrowed := true }
def KindTypesUptoSaid : Prop := kindTypesUptoRow.holds Tryz.pinned (OpenSpec.upto kindTypesSpec)

/-- 'swinglelaw03.KindUses', WHERE WHAT IT READS IS OF BULK AT MOST 1048576: true; the input reads as it did. -/
def kindUsesUptoRow : OpenClaim := { program := "ytnicceekibancaagreat", sum := "e22aa0b2adaf72c95f2c94745ceb51f7f4fe2b982c2c1c03c4b23693e3ee91da", func := "swingle/swinglelaw03.KindUses", spec := "kindUses", unfollowed := true, recurses := true, loops := true, apart := false, narrowed := true }
def KindUsesUptoSaid : Prop := kindUsesUptoRow.holds Tryz.pinned (OpenSpec.upto kindUsesSpec)

end Rows
end Go.Proofs.YtnicceekibancaaGreat
