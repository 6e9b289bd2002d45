/-
  NARROWER THAN 'FOR EVERY INPUT', by the rows' own cells (each row's printed sentence says how): DomainPropagates: laid · DomainVerifies: laid · DomainSolves: laid · DomainAll: laid.
  DERIVED. THE GIVEN ROWS OF THIS SEAT. 4 by the template 'for every input the law returns true; each argument reads behind the call as it read before'; 0 by the template 'total and deterministic' (their statements: YtdmmegmkdhinjaaGreatDoorTotals.lean).
  GIVEN WITH THE SEED: the statements are not yours to turn. If you find one false, say at which input.
  Laid BY PROGRAM, IN A SANDBOX (cutbox-rows.mjs): the forced cells as the released guide's own fill.sh prints them over the translation bd57f213a61f6814… (all of the seat's roots in one cut). By AI agents, Wed Nov 11 2026. No macro, syntax, notation, axiom, sorry.
-/
import Derived.Test.YtdmmegmkdhinjaaGreatDoorChecked
import GoSem.Claim
import GoSem.ClaimJoined
import GoSem.ClaimMapViews
import Derived.JoinedTies
import Derived.KernelRfl
namespace Go.Proofs.YtdmmegmkdhinjaaGreatDoor
/- THE CELL 'sum', in the pinned program and in every row, IS THE sha256 OF THE DUMP (.gsa) THAT YtdmmegmkdhinjaaGreatDoorProg.lean LOADS. Nothing in Lean hashes anything: it is a label: what it is worth is what the hold of that sum in a sandbox is worth. -/
noncomputable def Tryz.pinned : Pinned := { name := "ytdmmegmkdhinjaagreatdoor", sum := "bd57f213a61f6814d6a3f59a9ec120efbde609920373a68f3462685a87f0d9eb", checked := Tryz.checked }
namespace Rows
def none {H : Type} : Left H := { results := [], args := [] }

/- WHAT THE LISTED PACKAGE-LEVEL VARIABLES READ AS WHEN THE CALL BEGINS. Each datum BY PROGRAM (the guide's laid-datum.mjs) off the statement by which the dump's own 'gosem.cut.vars' lays the variable. In a bare row this is a premise. The card (YtdmmegmkdhinjaaGreatDoorCards.lean) ties it to the program's text. -/
def laid_math_bits_deBruijn64tab {H : Type} : DataW H := .agg [.lit (.int .u8 0), .lit (.int .u8 1), .lit (.int .u8 56), .lit (.int .u8 2), .lit (.int .u8 57), .lit (.int .u8 49), .lit (.int .u8 28), .lit (.int .u8 3), .lit (.int .u8 61), .lit (.int .u8 58), .lit (.int .u8 42), .lit (.int .u8 50), .lit (.int .u8 38), .lit (.int .u8 29), .lit (.int .u8 17), .lit (.int .u8 4), .lit (.int .u8 62), .lit (.int .u8 47), .lit (.int .u8 59), .lit (.int .u8 36), .lit (.int .u8 45), .lit (.int .u8 43), .lit (.int .u8 51), .lit (.int .u8 22), .lit (.int .u8 53), .lit (.int .u8 39), .lit (.int .u8 33), .lit (.int .u8 30), .lit (.int .u8 24), .lit (.int .u8 18), .lit (.int .u8 12), .lit (.int .u8 5), .lit (.int .u8 63), .lit (.int .u8 55), .lit (.int .u8 48), .lit (.int .u8 27), .lit (.int .u8 60), .lit (.int .u8 41), .lit (.int .u8 37), .lit (.int .u8 16), .lit (.int .u8 46), .lit (.int .u8 35), .lit (.int .u8 44), .lit (.int .u8 21), .lit (.int .u8 52), .lit (.int .u8 32), .lit (.int .u8 23), .lit (.int .u8 11), .lit (.int .u8 54), .lit (.int .u8 26), .lit (.int .u8 40), .lit (.int .u8 15), .lit (.int .u8 34), .lit (.int .u8 20), .lit (.int .u8 31), .lit (.int .u8 10), .lit (.int .u8 25), .lit (.int .u8 14), .lit (.int .u8 19), .lit (.int .u8 9), .lit (.int .u8 13), .lit (.int .u8 8), .lit (.int .u8 7), .lit (.int .u8 6)]

/-- 'swinglelaw14.DomainPropagates': WHATEVER THE INPUT: true; the input reads as it did. -/
def domainPropagatesSpec : ChangeSpec := { name := "domainPropagates", fn := fun _ => fun
  | [d] => { results := [.lit (.bool true)], args := [d] }
  | _ => none }
def domainPropagatesRow : OpenClaim := { program := "ytdmmegmkdhinjaagreatdoor", sum := "bd57f213a61f6814d6a3f59a9ec120efbde609920373a68f3462685a87f0d9eb", func := "swingle/swinglelaw14.DomainPropagates", spec := "domainPropagates", unfollowed := true, recurses := true, named := ["math/bits.deBruijn64tab"], plainKeys := false, apart := false, laid := [("math/bits.deBruijn64tab", laid_math_bits_deBruijn64tab)] }
def DomainPropagatesSaid : Prop := domainPropagatesRow.holds Tryz.pinned (OpenSpec.ofChange domainPropagatesSpec)

/-- ITS FALSE NEIGHBOUR: 'it returns false'. Refute it at one input. -/
def domainPropagatesWrong : ChangeSpec := { name := "domainPropagates", fn := fun _ => fun
  | [d] => { results := [.lit (.bool false)], args := [d] }
  | _ => none }
def DomainPropagatesWrongFalsely : Prop := domainPropagatesRow.holds Tryz.pinned (OpenSpec.ofChange domainPropagatesWrong)

/-- 'swinglelaw14.DomainVerifies': WHATEVER THE INPUT: true; the input reads as it did. -/
def domainVerifiesSpec : ChangeSpec := { name := "domainVerifies", fn := fun _ => fun
  | [d1, d2, d3] => { results := [.lit (.bool true)], args := [d1, d2, d3] }
  | _ => none }
def domainVerifiesRow : OpenClaim := { program := "ytdmmegmkdhinjaagreatdoor", sum := "bd57f213a61f6814d6a3f59a9ec120efbde609920373a68f3462685a87f0d9eb", func := "swingle/swinglelaw14.DomainVerifies", spec := "domainVerifies", unfollowed := true, recurses := true, named := ["math/bits.deBruijn64tab"], plainKeys := false, apart := false, laid := [("math/bits.deBruijn64tab", laid_math_bits_deBruijn64tab)] }
def DomainVerifiesSaid : Prop := domainVerifiesRow.holds Tryz.pinned (OpenSpec.ofChange domainVerifiesSpec)

/-- ITS FALSE NEIGHBOUR: 'it returns false'. Refute it at one input. -/
def domainVerifiesWrong : ChangeSpec := { name := "domainVerifies", fn := fun _ => fun
  | [d1, d2, d3] => { results := [.lit (.bool false)], args := [d1, d2, d3] }
  | _ => none }
def DomainVerifiesWrongFalsely : Prop := domainVerifiesRow.holds Tryz.pinned (OpenSpec.ofChange domainVerifiesWrong)

/-- 'swinglelaw14.DomainSolves': WHATEVER THE INPUT: true; the input reads as it did. -/
def domainSolvesSpec : ChangeSpec := { name := "domainSolves", fn := fun _ => fun
  | [d1, d2, d3] => { results := [.lit (.bool true)], args := [d1, d2, d3] }
  | _ => none }
def domainSolvesRow : OpenClaim := { program := "ytdmmegmkdhinjaagreatdoor", sum := "bd57f213a61f6814d6a3f59a9ec120efbde609920373a68f3462685a87f0d9eb", func := "swingle/swinglelaw14.DomainSolves", spec := "domainSolves", unfollowed := true, recurses := true, named := ["math/bits.deBruijn64tab"], plainKeys := false, apart := false, laid := [("math/bits.deBruijn64tab", laid_math_bits_deBruijn64tab)] }
def DomainSolvesSaid : Prop := domainSolvesRow.holds Tryz.pinned (OpenSpec.ofChange domainSolvesSpec)

/-- ITS FALSE NEIGHBOUR: 'it returns false'. Refute it at one input. -/
def domainSolvesWrong : ChangeSpec := { name := "domainSolves", fn := fun _ => fun
  | [d1, d2, d3] => { results := [.lit (.bool false)], args := [d1, d2, d3] }
  | _ => none }
def DomainSolvesWrongFalsely : Prop := domainSolvesRow.holds Tryz.pinned (OpenSpec.ofChange domainSolvesWrong)

/-- 'swinglelaw14.DomainAll': WHATEVER THE INPUT: true; the input reads as it did. -/
def domainAllSpec : ChangeSpec := { name := "domainAll", fn := fun _ => fun
  | [d1, d2] => { results := [.lit (.bool true)], args := [d1, d2] }
  | _ => none }
def domainAllRow : OpenClaim := { program := "ytdmmegmkdhinjaagreatdoor", sum := "bd57f213a61f6814d6a3f59a9ec120efbde609920373a68f3462685a87f0d9eb", func := "swingle/swinglelaw14.DomainAll", spec := "domainAll", unfollowed := true, recurses := true, named := ["math/bits.deBruijn64tab"], plainKeys := false, apart := false, laid := [("math/bits.deBruijn64tab", laid_math_bits_deBruijn64tab)] }
def DomainAllSaid : Prop := domainAllRow.holds Tryz.pinned (OpenSpec.ofChange domainAllSpec)

/-- ITS FALSE NEIGHBOUR: 'it returns false'. Refute it at one input. -/
def domainAllWrong : ChangeSpec := { name := "domainAll", fn := fun _ => fun
  | [d1, d2] => { results := [.lit (.bool false)], args := [d1, d2] }
  | _ => none }
def DomainAllWrongFalsely : Prop := domainAllRow.holds Tryz.pinned (OpenSpec.ofChange domainAllWrong)

/- THE SECOND FORM. 'bulk': how many values and letters a reading holds, each counted each time it is reached (what is shared counts as often as it is met; a slice's spare places count too). A statement '..UptoSaid' is the law's where the arguments, and the package variables that the reading takes, are together of bulk at most 1048576: NARROWER than '..Said'. Prove '..Said' where nothing that the law and all that it calls make is longer than what came in: it says more and counts as full. Else prove '..UptoSaid'. A law counts once. -/
mutual
def uptoBulk {H : Type} : DataW H → Nat
  | .lit (.string bytes) => bytes.length + 1
  | .lit _ => 1
  | .nil => 1
  | .ptr d => uptoBulk d + 1
  | .slice elems spare => uptoBulkAll elems + uptoBulkAll spare + 1
  | .agg parts => uptoBulkAll parts + 1
  | .iface _ d => uptoBulk d + 1
  | .map entries => uptoBulkEntries entries + 1
  | .held _ => 1
def uptoBulkAll {H : Type} : List (DataW H) → Nat
  | [] => 0
  | d :: r => uptoBulk d + uptoBulkAll r
def uptoBulkEntries {H : Type} : List (Lit × DataW H) → Nat
  | [] => 0
  | x :: r => uptoBulkEntry x + uptoBulkEntries r
def uptoBulkEntry {H : Type} : Lit × DataW H → Nat
  | (.string bytes, d) => bytes.length + uptoBulk d + 1
  | (_, d) => uptoBulk d + 1
 end
def uptoSmall : (H : Type) → List (DataW H) → Bool := fun _ ds => decide (uptoBulkAll ds ≤ 1048576)
def OpenSpec.upto (s : _root_.Go.ChangeSpec) : _root_.Go.OpenSpec := { _root_.Go.OpenSpec.ofChange s with cond := some uptoSmall }

/-- 'swinglelaw14.DomainPropagates', WHERE WHAT IT READS IS OF BULK AT MOST 1048576: true; the input reads as it did. -/
def domainPropagatesUptoRow : OpenClaim := { program := "ytdmmegmkdhinjaagreatdoor", sum := "bd57f213a61f6814d6a3f59a9ec120efbde609920373a68f3462685a87f0d9eb", func := "swingle/swinglelaw14.DomainPropagates", spec := "domainPropagates", unfollowed := true, recurses := true, named := ["math/bits.deBruijn64tab"], plainKeys := false, apart := false, laid := [("math/bits.deBruijn64tab", laid_math_bits_deBruijn64tab)], narrowed := true }
def DomainPropagatesUptoSaid : Prop := domainPropagatesUptoRow.holds Tryz.pinned (OpenSpec.upto domainPropagatesSpec)

/-- 'swinglelaw14.DomainVerifies', WHERE WHAT IT READS IS OF BULK AT MOST 1048576: true; the input reads as it did. -/
def domainVerifiesUptoRow : OpenClaim := { program := "ytdmmegmkdhinjaagreatdoor", sum := "bd57f213a61f6814d6a3f59a9ec120efbde609920373a68f3462685a87f0d9eb", func := "swingle/swinglelaw14.DomainVerifies", spec := "domainVerifies", unfollowed := true, recurses := true, named := ["math/bits.deBruijn64tab"], plainKeys := false, apart := false, laid := [("math/bits.deBruijn64tab", laid_math_bits_deBruijn64tab)], narrowed := true }
def DomainVerifiesUptoSaid : Prop := domainVerifiesUptoRow.holds Tryz.pinned (OpenSpec.upto domainVerifiesSpec)

/-- 'swinglelaw14.DomainSolves', WHERE WHAT IT READS IS OF BULK AT MOST 1048576: true; the input reads as it did. -/
def domainSolvesUptoRow : OpenClaim := { program := "ytdmmegmkdhinjaagreatdoor", sum := "bd57f213a61f6814d6a3f59a9ec120efbde609920373a68f3462685a87f0d9eb", func := "swingle/swinglelaw14.DomainSolves", spec := "domainSolves", unfollowed := true, recurses := true, named := ["math/bits.deBruijn64tab"], plainKeys := false, apart := false, laid := [("math/bits.deBruijn64tab", laid_math_bits_deBruijn64tab)], narrowed := true }
def DomainSolvesUptoSaid : Prop := domainSolvesUptoRow.holds Tryz.pinned (OpenSpec.upto domainSolvesSpec)

/-- 'swinglelaw14.DomainAll', WHERE WHAT IT READS IS OF BULK AT MOST 1048576: true; the input reads as it did. -/
def domainAllUptoRow : OpenClaim := { program := "ytdmmegmkdhinjaagreatdoor", sum := "bd57f213a61f6814d6a3f59a9ec120efbde609920373a68f3462685a87f0d9eb", func := "swingle/swinglelaw14.DomainAll", spec := "domainAll", unfollowed := true, recurses := true, named := ["math/bits.deBruijn64tab"], plainKeys := false, apart := false, laid := [("math/bits.deBruijn64tab", laid_math_bits_deBruijn64tab)], narrowed := true }
def DomainAllUptoSaid : Prop := domainAllUptoRow.holds Tryz.pinned (OpenSpec.upto domainAllSpec)

end Rows
end Go.Proofs.YtdmmegmkdhinjaaGreatDoor
