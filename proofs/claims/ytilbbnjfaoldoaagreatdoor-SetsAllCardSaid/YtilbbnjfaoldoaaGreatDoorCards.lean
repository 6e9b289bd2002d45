/-
  DERIVED. GIVEN WITH THE SEED: THE CARDS: each row of YtilbbnjfaoldoaaGreatDoorRows.lean that lists a variable, with what it lists TIED to the program's text (the seventh form; the later family's looks); each row that meets fmt, with fmt's text TOLD by the authors' own Lean function (tested against real Go, not proved from fmt's source: count such statements apart). THE CARD IS WHAT COUNTS. Prove the row's statement (the work); the ties are given (YtilbbnjfaoldoaaGreatDoorTie.lean); close each card by the builder's one call (the guide's Derived/Test/ToyasCard.lean, 'card_holds'). Laid BY PROGRAM, IN A SANDBOX (cutbox-door.mjs). By AI agents, Wed Nov 11 2026. No macro, syntax, notation, axiom, sorry.
-/
import Derived.Test.YtilbbnjfaoldoaaGreatDoorRows
import GoSem.ClaimSeven
namespace Go.Proofs.YtilbbnjfaoldoaaGreatDoor
namespace Rows

/-- THE TIED CARD OF 'swinglelaw16.SetsAll'. -/
def setsAllCard : Claim7 := { stood := { row := setsAllRow, standIns := [], harness := (true, "7c7dfa548f7ee66d9257819adf084e75c509e71c62778b854b60c6028a752d64"), looks := true }, kinds := [], alts := [], laidByText := true, laidKinds := [.data], laidTests := true, laidLooks := .later }
def SetsAllCardSaid : Prop := Claim7.holds Tryz.pinned (.plain (OpenSpec.ofChange setsAllSpec)) setsAllCard

/-- THE SECOND FORM's CARD OF 'swinglelaw16.SetsAll'. -/
def setsAllUptoCard : Claim7 := { stood := { row := setsAllUptoRow, standIns := [], harness := (true, "7c7dfa548f7ee66d9257819adf084e75c509e71c62778b854b60c6028a752d64"), looks := true }, kinds := [], alts := [], laidByText := true, laidKinds := [.data], laidTests := true, laidLooks := .later }
def SetsAllUptoCardSaid : Prop := Claim7.holds Tryz.pinned (.plain (OpenSpec.upto setsAllSpec)) setsAllUptoCard
end Rows
end Go.Proofs.YtilbbnjfaoldoaaGreatDoor
