/-
  NARROWER THAN 'FOR EVERY INPUT', by the rows' own cells (each row's printed sentence says how): DomainSupports: laid · DomainCores: laid · DomainSound: laid · DomainKnown: laid · DomainReasons: laid · DomainOrder: laid.
  DERIVED. THE GIVEN ROWS OF THIS SEAT. 6 by the template 'for every input the law returns true; each argument reads behind the call as it read before'; 0 by the template 'total and deterministic' (their statements: YtdmmegmkdhinjaaDoorTotals.lean).
  GIVEN WITH THE SEED: the statements are not yours to turn. If you find one false, say at which input.
  Laid BY PROGRAM, IN A SANDBOX (cutbox-rows.mjs): the forced cells as the released guide's own fill.sh prints them over the translation d6c74a7a0d4f84c9… (all of the seat's roots in one cut). By AI agents, Wed Nov 11 2026. No macro, syntax, notation, axiom, sorry.
-/
import Derived.Test.YtdmmegmkdhinjaaDoorChecked
import GoSem.Claim
import GoSem.ClaimJoined
import GoSem.ClaimMapViews
import Derived.JoinedTies
import Derived.KernelRfl
namespace Go.Proofs.YtdmmegmkdhinjaaDoor
/- THE CELL 'sum', in the pinned program and in every row, IS THE sha256 OF THE DUMP (.gsa) THAT YtdmmegmkdhinjaaDoorProg.lean LOADS. Nothing in Lean hashes anything: it is a label: what it is worth is what the hold of that sum in a sandbox is worth. -/
noncomputable def Tryd.pinned : Pinned := { name := "ytdmmegmkdhinjaadoor", sum := "d6c74a7a0d4f84c9a8b36e183ce101897a7fd81c19b3af64a35fd8767a379a93", checked := Tryd.checked }
namespace Rows
def none {H : Type} : Left H := { results := [], args := [] }

/- WHAT THE LISTED PACKAGE-LEVEL VARIABLES READ AS WHEN THE CALL BEGINS. Each datum BY PROGRAM (the guide's laid-datum.mjs) off the statement by which the dump's own 'gosem.cut.vars' lays the variable. In a bare row this is a premise. The card (YtdmmegmkdhinjaaDoorCards.lean) ties it to the program's text. -/
def laid_math_bits_deBruijn64tab {H : Type} : DataW H := .agg [.lit (.int .u8 0), .lit (.int .u8 1), .lit (.int .u8 56), .lit (.int .u8 2), .lit (.int .u8 57), .lit (.int .u8 49), .lit (.int .u8 28), .lit (.int .u8 3), .lit (.int .u8 61), .lit (.int .u8 58), .lit (.int .u8 42), .lit (.int .u8 50), .lit (.int .u8 38), .lit (.int .u8 29), .lit (.int .u8 17), .lit (.int .u8 4), .lit (.int .u8 62), .lit (.int .u8 47), .lit (.int .u8 59), .lit (.int .u8 36), .lit (.int .u8 45), .lit (.int .u8 43), .lit (.int .u8 51), .lit (.int .u8 22), .lit (.int .u8 53), .lit (.int .u8 39), .lit (.int .u8 33), .lit (.int .u8 30), .lit (.int .u8 24), .lit (.int .u8 18), .lit (.int .u8 12), .lit (.int .u8 5), .lit (.int .u8 63), .lit (.int .u8 55), .lit (.int .u8 48), .lit (.int .u8 27), .lit (.int .u8 60), .lit (.int .u8 41), .lit (.int .u8 37), .lit (.int .u8 16), .lit (.int .u8 46), .lit (.int .u8 35), .lit (.int .u8 44), .lit (.int .u8 21), .lit (.int .u8 52), .lit (.int .u8 32), .lit (.int .u8 23), .lit (.int .u8 11), .lit (.int .u8 54), .lit (.int .u8 26), .lit (.int .u8 40), .lit (.int .u8 15), .lit (.int .u8 34), .lit (.int .u8 20), .lit (.int .u8 31), .lit (.int .u8 10), .lit (.int .u8 25), .lit (.int .u8 14), .lit (.int .u8 19), .lit (.int .u8 9), .lit (.int .u8 13), .lit (.int .u8 8), .lit (.int .u8 7), .lit (.int .u8 6)]

/-- 'swinglelaw14.DomainSupports': WHATEVER THE INPUT: true; the input reads as it did. -/
def domainSupportsSpec : ChangeSpec := { name := "domainSupports", fn := fun _ => fun
  | [d1, d2, d3, d4] => { results := [.lit (.bool true)], args := [d1, d2, d3, d4] }
  | _ => none }
def domainSupportsRow : OpenClaim := { program := "ytdmmegmkdhinjaadoor", sum := "d6c74a7a0d4f84c9a8b36e183ce101897a7fd81c19b3af64a35fd8767a379a93", func := "swingle/swinglelaw14.DomainSupports", spec := "domainSupports", unfollowed := true, recurses := true, named := ["math/bits.deBruijn64tab"], plainKeys := false, apart := false, laid := [("math/bits.deBruijn64tab", laid_math_bits_deBruijn64tab)] }
def DomainSupportsSaid : Prop := domainSupportsRow.holds Tryd.pinned (OpenSpec.ofChange domainSupportsSpec)

/-- ITS FALSE NEIGHBOUR: 'it returns false'. Refute it at one input. -/
def domainSupportsWrong : ChangeSpec := { name := "domainSupports", fn := fun _ => fun
  | [d1, d2, d3, d4] => { results := [.lit (.bool false)], args := [d1, d2, d3, d4] }
  | _ => none }
def DomainSupportsWrongFalsely : Prop := domainSupportsRow.holds Tryd.pinned (OpenSpec.ofChange domainSupportsWrong)

/-- 'swinglelaw14.DomainCores': WHATEVER THE INPUT: true; the input reads as it did. -/
def domainCoresSpec : ChangeSpec := { name := "domainCores", fn := fun _ => fun
  | [d1, d2] => { results := [.lit (.bool true)], args := [d1, d2] }
  | _ => none }
def domainCoresRow : OpenClaim := { program := "ytdmmegmkdhinjaadoor", sum := "d6c74a7a0d4f84c9a8b36e183ce101897a7fd81c19b3af64a35fd8767a379a93", func := "swingle/swinglelaw14.DomainCores", spec := "domainCores", unfollowed := true, recurses := true, named := ["math/bits.deBruijn64tab"], plainKeys := false, apart := false, laid := [("math/bits.deBruijn64tab", laid_math_bits_deBruijn64tab)] }
def DomainCoresSaid : Prop := domainCoresRow.holds Tryd.pinned (OpenSpec.ofChange domainCoresSpec)

/-- ITS FALSE NEIGHBOUR: 'it returns false'. Refute it at one input. -/
def domainCoresWrong : ChangeSpec := { name := "domainCores", fn := fun _ => fun
  | [d1, d2] => { results := [.lit (.bool false)], args := [d1, d2] }
  | _ => none }
def DomainCoresWrongFalsely : Prop := domainCoresRow.holds Tryd.pinned (OpenSpec.ofChange domainCoresWrong)

/-- 'swinglelaw14.DomainSound': WHATEVER THE INPUT: true; the input reads as it did. -/
def domainSoundSpec : ChangeSpec := { name := "domainSound", fn := fun _ => fun
  | [d1, d2] => { results := [.lit (.bool true)], args := [d1, d2] }
  | _ => none }
def domainSoundRow : OpenClaim := { program := "ytdmmegmkdhinjaadoor", sum := "d6c74a7a0d4f84c9a8b36e183ce101897a7fd81c19b3af64a35fd8767a379a93", func := "swingle/swinglelaw14.DomainSound", spec := "domainSound", unfollowed := true, recurses := true, named := ["math/bits.deBruijn64tab"], plainKeys := false, apart := false, laid := [("math/bits.deBruijn64tab", laid_math_bits_deBruijn64tab)] }
def DomainSoundSaid : Prop := domainSoundRow.holds Tryd.pinned (OpenSpec.ofChange domainSoundSpec)

/-- ITS FALSE NEIGHBOUR: 'it returns false'. Refute it at one input. -/
def domainSoundWrong : ChangeSpec := { name := "domainSound", fn := fun _ => fun
  | [d1, d2] => { results := [.lit (.bool false)], args := [d1, d2] }
  | _ => none }
def DomainSoundWrongFalsely : Prop := domainSoundRow.holds Tryd.pinned (OpenSpec.ofChange domainSoundWrong)

/-- 'swinglelaw14.DomainKnown': WHATEVER THE INPUT: true; the input reads as it did. -/
def domainKnownSpec : ChangeSpec := { name := "domainKnown", fn := fun _ => fun
  | [] => { results := [.lit (.bool true)], args := [] }
  | _ => none }
def domainKnownRow : OpenClaim := { program := "ytdmmegmkdhinjaadoor", sum := "d6c74a7a0d4f84c9a8b36e183ce101897a7fd81c19b3af64a35fd8767a379a93", func := "swingle/swinglelaw14.DomainKnown", spec := "domainKnown", unfollowed := true, recurses := true, named := ["math/bits.deBruijn64tab"], plainKeys := false, apart := false, laid := [("math/bits.deBruijn64tab", laid_math_bits_deBruijn64tab)] }
def DomainKnownSaid : Prop := domainKnownRow.holds Tryd.pinned (OpenSpec.ofChange domainKnownSpec)

/-- ITS FALSE NEIGHBOUR: 'it returns false'. Refute it at one input. -/
def domainKnownWrong : ChangeSpec := { name := "domainKnown", fn := fun _ => fun
  | [] => { results := [.lit (.bool false)], args := [] }
  | _ => none }
def DomainKnownWrongFalsely : Prop := domainKnownRow.holds Tryd.pinned (OpenSpec.ofChange domainKnownWrong)

/-- 'swinglelaw14.DomainReasons': WHATEVER THE INPUT: true; the input reads as it did. -/
def domainReasonsSpec : ChangeSpec := { name := "domainReasons", fn := fun _ => fun
  | [d1, d2] => { results := [.lit (.bool true)], args := [d1, d2] }
  | _ => none }
def domainReasonsRow : OpenClaim := { program := "ytdmmegmkdhinjaadoor", sum := "d6c74a7a0d4f84c9a8b36e183ce101897a7fd81c19b3af64a35fd8767a379a93", func := "swingle/swinglelaw14.DomainReasons", spec := "domainReasons", unfollowed := true, recurses := true, named := ["math/bits.deBruijn64tab"], plainKeys := false, apart := false, laid := [("math/bits.deBruijn64tab", laid_math_bits_deBruijn64tab)] }
def DomainReasonsSaid : Prop := domainReasonsRow.holds Tryd.pinned (OpenSpec.ofChange domainReasonsSpec)

/-- ITS FALSE NEIGHBOUR: 'it returns false'. Refute it at one input. -/
def domainReasonsWrong : ChangeSpec := { name := "domainReasons", fn := fun _ => fun
  | [d1, d2] => { results := [.lit (.bool false)], args := [d1, d2] }
  | _ => none }
def DomainReasonsWrongFalsely : Prop := domainReasonsRow.holds Tryd.pinned (OpenSpec.ofChange domainReasonsWrong)

/-- 'swinglelaw14.DomainOrder': WHATEVER THE INPUT: true; the input reads as it did. -/
def domainOrderSpec : ChangeSpec := { name := "domainOrder", fn := fun _ => fun
  | [d1, d2] => { results := [.lit (.bool true)], args := [d1, d2] }
  | _ => none }
def domainOrderRow : OpenClaim := { program := "ytdmmegmkdhinjaadoor", sum := "d6c74a7a0d4f84c9a8b36e183ce101897a7fd81c19b3af64a35fd8767a379a93", func := "swingle/swinglelaw14.DomainOrder", spec := "domainOrder", inPlace := ["slices.overlaps[swingle/api.DomainRule]"], unfollowed := true, recurses := true, named := ["math/bits.deBruijn64tab"], plainKeys := false, apart := false, laid := [("math/bits.deBruijn64tab", laid_math_bits_deBruijn64tab)] }
def DomainOrderSaid : Prop := domainOrderRow.holds Tryd.pinned (OpenSpec.ofChange domainOrderSpec)

/-- ITS FALSE NEIGHBOUR: 'it returns false'. Refute it at one input. -/
def domainOrderWrong : ChangeSpec := { name := "domainOrder", fn := fun _ => fun
  | [d1, d2] => { results := [.lit (.bool false)], args := [d1, d2] }
  | _ => none }
def DomainOrderWrongFalsely : Prop := domainOrderRow.holds Tryd.pinned (OpenSpec.ofChange domainOrderWrong)

/- THE SECOND FORM. 'bulk': how many values and letters a reading holds, each counted each time it is reached (what is shared counts as often as it is met; a slice's spare places count too). A statement '..UptoSaid' is the law's where the arguments, and the package variables that the reading takes, are together of bulk at most 1048576: NARROWER than '..Said'. Prove '..Said' where nothing that the law and all that it calls make is longer than what came in: it says more and counts as full. Else prove '..UptoSaid'. A law counts once. -/
mutual
def uptoBulk {H : Type} : DataW H → Nat
  | .lit (.string bytes) => bytes.length + 1
  | .lit _ => 1
  | .nil => 1
  | .ptr d => uptoBulk d + 1
  | .slice elems spare => uptoBulkAll elems + uptoBulkAll spare + 1
  | .agg parts => uptoBulkAll parts + 1
  | .iface _ d => uptoBulk d + 1
  | .map entries => uptoBulkEntries entries + 1
  | .held _ => 1
def uptoBulkAll {H : Type} : List (DataW H) → Nat
  | [] => 0
  | d :: r => uptoBulk d + uptoBulkAll r
def uptoBulkEntries {H : Type} : List (Lit × DataW H) → Nat
  | [] => 0
  | x :: r => uptoBulkEntry x + uptoBulkEntries r
def uptoBulkEntry {H : Type} : Lit × DataW H → Nat
  | (.string bytes, d) => bytes.length + uptoBulk d + 1
  | (_, d) => uptoBulk d + 1
 end
def uptoSmall : (H : Type) → List (DataW H) → Bool := fun _ ds => decide (uptoBulkAll ds ≤ 1048576)
def OpenSpec.upto (s : _root_.Go.ChangeSpec) : _root_.Go.OpenSpec := { _root_.Go.OpenSpec.ofChange s with cond := some uptoSmall }

/-- 'swinglelaw14.DomainSupports', WHERE WHAT IT READS IS OF BULK AT MOST 1048576: true; the input reads as it did. -/
def domainSupportsUptoRow : OpenClaim := { program := "ytdmmegmkdhinjaadoor", sum := "d6c74a7a0d4f84c9a8b36e183ce101897a7fd81c19b3af64a35fd8767a379a93", func := "swingle/swinglelaw14.DomainSupports", spec := "domainSupports", unfollowed := true, recurses := true, named := ["math/bits.deBruijn64tab"], plainKeys := false, apart := false, laid := [("math/bits.deBruijn64tab", laid_math_bits_deBruijn64tab)], narrowed := true }
def DomainSupportsUptoSaid : Prop := domainSupportsUptoRow.holds Tryd.pinned (OpenSpec.upto domainSupportsSpec)

/-- 'swinglelaw14.DomainCores', WHERE WHAT IT READS IS OF BULK AT MOST 1048576: true; the input reads as it did. -/
def domainCoresUptoRow : OpenClaim := { program := "ytdmmegmkdhinjaadoor", sum := "d6c74a7a0d4f84c9a8b36e183ce101897a7fd81c19b3af64a35fd8767a379a93", func := "swingle/swinglelaw14.DomainCores", spec := "domainCores", unfollowed := true, recurses := true, named := ["math/bits.deBruijn64tab"], plainKeys := false, apart := false, laid := [("math/bits.deBruijn64tab", laid_math_bits_deBruijn64tab)], narrowed := true }
def DomainCoresUptoSaid : Prop := domainCoresUptoRow.holds Tryd.pinned (OpenSpec.upto domainCoresSpec)

/-- 'swinglelaw14.DomainSound', WHERE WHAT IT READS IS OF BULK AT MOST 1048576: true; the input reads as it did. -/
def domainSoundUptoRow : OpenClaim := { program := "ytdmmegmkdhinjaadoor", sum := "d6c74a7a0d4f84c9a8b36e183ce101897a7fd81c19b3af64a35fd8767a379a93", func := "swingle/swinglelaw14.DomainSound", spec := "domainSound", unfollowed := true, recurses := true, named := ["math/bits.deBruijn64tab"], plainKeys := false, apart := false, laid := [("math/bits.deBruijn64tab", laid_math_bits_deBruijn64tab)], narrowed := true }
def DomainSoundUptoSaid : Prop := domainSoundUptoRow.holds Tryd.pinned (OpenSpec.upto domainSoundSpec)

/-- 'swinglelaw14.DomainKnown', WHERE WHAT IT READS IS OF BULK AT MOST 1048576: true; the input reads as it did. -/
def domainKnownUptoRow : OpenClaim := { program := "ytdmmegmkdhinjaadoor", sum := "d6c74a7a0d4f84c9a8b36e183ce101897a7fd81c19b3af64a35fd8767a379a93", func := "swingle/swinglelaw14.DomainKnown", spec := "domainKnown", unfollowed := true, recurses := true, named := ["math/bits.deBruijn64tab"], plainKeys := false, apart := false, laid := [("math/bits.deBruijn64tab", laid_math_bits_deBruijn64tab)], narrowed := true }
def DomainKnownUptoSaid : Prop := domainKnownUptoRow.holds Tryd.pinned (OpenSpec.upto domainKnownSpec)

/-- 'swinglelaw14.DomainReasons', WHERE WHAT IT READS IS OF BULK AT MOST 1048576: true; the input reads as it did. -/
def domainReasonsUptoRow : OpenClaim := { program := "ytdmmegmkdhinjaadoor", sum := "d6c74a7a0d4f84c9a8b36e183ce101897a7fd81c19b3af64a35fd8767a379a93", func := "swingle/swinglelaw14.DomainReasons", spec := "domainReasons", unfollowed := true, recurses := true, named := ["math/bits.deBruijn64tab"], plainKeys := false, apart := false, laid := [("math/bits.deBruijn64tab", laid_math_bits_deBruijn64tab)], narrowed := true }
def DomainReasonsUptoSaid : Prop := domainReasonsUptoRow.holds Tryd.pinned (OpenSpec.upto domainReasonsSpec)

/-- 'swinglelaw14.DomainOrder', WHERE WHAT IT READS IS OF BULK AT MOST 1048576: true; the input reads as it did. -/
def domainOrderUptoRow : OpenClaim := { program := "ytdmmegmkdhinjaadoor", sum := "d6c74a7a0d4f84c9a8b36e183ce101897a7fd81c19b3af64a35fd8767a379a93", func := "swingle/swinglelaw14.DomainOrder", spec := "domainOrder", inPlace := ["slices.overlaps[swingle/api.DomainRule]"], unfollowed := true, recurses := true, named := ["math/bits.deBruijn64tab"], plainKeys := false, apart := false, laid := [("math/bits.deBruijn64tab", laid_math_bits_deBruijn64tab)], narrowed := true }
def DomainOrderUptoSaid : Prop := domainOrderUptoRow.holds Tryd.pinned (OpenSpec.upto domainOrderSpec)

end Rows
end Go.Proofs.YtdmmegmkdhinjaaDoor
