/-
  DERIVED. GIVEN WITH THE SEED: THE CARDS: each row of YtilbbnjfaoldoaaDoorRows.lean that lists a variable, with what it lists TIED to the program's text (the seventh form; the later family's looks); each row that meets fmt, with fmt's text TOLD by the authors' own Lean function (tested against real Go, not proved from fmt's source: count such statements apart). THE CARD IS WHAT COUNTS. Prove the row's statement (the work); the ties are given (YtilbbnjfaoldoaaDoorTie.lean); close each card by the builder's one call (the guide's Derived/Test/ToyasCard.lean, 'card_holds'). Laid BY PROGRAM, IN A SANDBOX (cutbox-door.mjs). By AI agents, Wed Nov 11 2026. No macro, syntax, notation, axiom, sorry.
-/
import Derived.Test.YtilbbnjfaoldoaaDoorRows
import GoSem.ClaimSeven
namespace Go.Proofs.YtilbbnjfaoldoaaDoor
namespace Rows

/-- THE TIED CARD OF 'swinglelaw16.SetsHolds'. -/
def setsHoldsCard : Claim7 := { stood := { row := setsHoldsRow, standIns := [], harness := (true, "b5fe606be6afc5decc392c6cb8e3934bed14341d384051f14c84f3663dd04cc4"), looks := true }, kinds := [], alts := [], laidByText := true, laidKinds := [.data], laidTests := true, laidLooks := .later }
def SetsHoldsCardSaid : Prop := Claim7.holds Tryd.pinned (.plain (OpenSpec.ofChange setsHoldsSpec)) setsHoldsCard

/-- THE TIED CARD OF 'swinglelaw16.SetsPropagates'. -/
def setsPropagatesCard : Claim7 := { stood := { row := setsPropagatesRow, standIns := [], harness := (true, "b5fe606be6afc5decc392c6cb8e3934bed14341d384051f14c84f3663dd04cc4"), looks := true }, kinds := [], alts := [], laidByText := true, laidKinds := [.data], laidTests := true, laidLooks := .later }
def SetsPropagatesCardSaid : Prop := Claim7.holds Tryd.pinned (.plain (OpenSpec.ofChange setsPropagatesSpec)) setsPropagatesCard

/-- THE TIED CARD OF 'swinglelaw16.SetsSolves'. -/
def setsSolvesCard : Claim7 := { stood := { row := setsSolvesRow, standIns := [], harness := (true, "b5fe606be6afc5decc392c6cb8e3934bed14341d384051f14c84f3663dd04cc4"), looks := true }, kinds := [], alts := [], laidByText := true, laidKinds := [.data], laidTests := true, laidLooks := .later }
def SetsSolvesCardSaid : Prop := Claim7.holds Tryd.pinned (.plain (OpenSpec.ofChange setsSolvesSpec)) setsSolvesCard

/-- THE TIED CARD OF 'swinglelaw16.SetsFollows'. -/
def setsFollowsCard : Claim7 := { stood := { row := setsFollowsRow, standIns := [], harness := (true, "b5fe606be6afc5decc392c6cb8e3934bed14341d384051f14c84f3663dd04cc4"), looks := true }, kinds := [], alts := [], laidByText := true, laidKinds := [.data], laidTests := true, laidLooks := .later }
def SetsFollowsCardSaid : Prop := Claim7.holds Tryd.pinned (.plain (OpenSpec.ofChange setsFollowsSpec)) setsFollowsCard

/-- THE TIED CARD OF 'swinglelaw16.SetsKnown'. -/
def setsKnownCard : Claim7 := { stood := { row := setsKnownRow, standIns := [], harness := (true, "b5fe606be6afc5decc392c6cb8e3934bed14341d384051f14c84f3663dd04cc4"), looks := true }, kinds := [], alts := [], laidByText := true, laidKinds := [.data], laidTests := true, laidLooks := .later }
def SetsKnownCardSaid : Prop := Claim7.holds Tryd.pinned (.plain (OpenSpec.ofChange setsKnownSpec)) setsKnownCard

/-- THE TIED CARD OF 'swinglelaw16.SetsVerifies'. -/
def setsVerifiesCard : Claim7 := { stood := { row := setsVerifiesRow, standIns := [], harness := (true, "b5fe606be6afc5decc392c6cb8e3934bed14341d384051f14c84f3663dd04cc4"), looks := true }, kinds := [], alts := [], laidByText := true, laidKinds := [.data], laidTests := true, laidLooks := .later }
def SetsVerifiesCardSaid : Prop := Claim7.holds Tryd.pinned (.plain (OpenSpec.ofChange setsVerifiesSpec)) setsVerifiesCard

/-- THE TIED CARD OF 'swinglelaw16.SetsSound'. -/
def setsSoundCard : Claim7 := { stood := { row := setsSoundRow, standIns := [], harness := (true, "b5fe606be6afc5decc392c6cb8e3934bed14341d384051f14c84f3663dd04cc4"), looks := true }, kinds := [], alts := [], laidByText := true, laidKinds := [.data], laidTests := true, laidLooks := .later }
def SetsSoundCardSaid : Prop := Claim7.holds Tryd.pinned (.plain (OpenSpec.ofChange setsSoundSpec)) setsSoundCard

/-- THE TIED CARD OF 'swinglelaw16.SetsReasons'. -/
def setsReasonsCard : Claim7 := { stood := { row := setsReasonsRow, standIns := [], harness := (true, "b5fe606be6afc5decc392c6cb8e3934bed14341d384051f14c84f3663dd04cc4"), looks := true }, kinds := [], alts := [], laidByText := true, laidKinds := [.data], laidTests := true, laidLooks := .later }
def SetsReasonsCardSaid : Prop := Claim7.holds Tryd.pinned (.plain (OpenSpec.ofChange setsReasonsSpec)) setsReasonsCard

/-- THE TIED CARD OF 'swinglelaw16.SetsOrder'. -/
def setsOrderCard : Claim7 := { stood := { row := setsOrderRow, standIns := [], harness := (true, "b5fe606be6afc5decc392c6cb8e3934bed14341d384051f14c84f3663dd04cc4"), looks := true }, kinds := [], alts := [], laidByText := true, laidKinds := [.data], laidTests := true, laidLooks := .later }
def SetsOrderCardSaid : Prop := Claim7.holds Tryd.pinned (.plain (OpenSpec.ofChange setsOrderSpec)) setsOrderCard

/-- THE SECOND FORM's CARD OF 'swinglelaw16.SetsHolds'. -/
def setsHoldsUptoCard : Claim7 := { stood := { row := setsHoldsUptoRow, standIns := [], harness := (true, "b5fe606be6afc5decc392c6cb8e3934bed14341d384051f14c84f3663dd04cc4"), looks := true }, kinds := [], alts := [], laidByText := true, laidKinds := [.data], laidTests := true, laidLooks := .later }
def SetsHoldsUptoCardSaid : Prop := Claim7.holds Tryd.pinned (.plain (OpenSpec.upto setsHoldsSpec)) setsHoldsUptoCard

/-- THE SECOND FORM's CARD OF 'swinglelaw16.SetsPropagates'. -/
def setsPropagatesUptoCard : Claim7 := { stood := { row := setsPropagatesUptoRow, standIns := [], harness := (true, "b5fe606be6afc5decc392c6cb8e3934bed14341d384051f14c84f3663dd04cc4"), looks := true }, kinds := [], alts := [], laidByText := true, laidKinds := [.data], laidTests := true, laidLooks := .later }
def SetsPropagatesUptoCardSaid : Prop := Claim7.holds Tryd.pinned (.plain (OpenSpec.upto setsPropagatesSpec)) setsPropagatesUptoCard

/-- THE SECOND FORM's CARD OF 'swinglelaw16.SetsSolves'. -/
def setsSolvesUptoCard : Claim7 := { stood := { row := setsSolvesUptoRow, standIns := [], harness := (true, "b5fe606be6afc5decc392c6cb8e3934bed14341d384051f14c84f3663dd04cc4"), looks := true }, kinds := [], alts := [], laidByText := true, laidKinds := [.data], laidTests := true, laidLooks := .later }
def SetsSolvesUptoCardSaid : Prop := Claim7.holds Tryd.pinned (.plain (OpenSpec.upto setsSolvesSpec)) setsSolvesUptoCard

/-- THE SECOND FORM's CARD OF 'swinglelaw16.SetsFollows'. -/
def setsFollowsUptoCard : Claim7 := { stood := { row := setsFollowsUptoRow, standIns := [], harness := (true, "b5fe606be6afc5decc392c6cb8e3934bed14341d384051f14c84f3663dd04cc4"), looks := true }, kinds := [], alts := [], laidByText := true, laidKinds := [.data], laidTests := true, laidLooks := .later }
def SetsFollowsUptoCardSaid : Prop := Claim7.holds Tryd.pinned (.plain (OpenSpec.upto setsFollowsSpec)) setsFollowsUptoCard

/-- THE SECOND FORM's CARD OF 'swinglelaw16.SetsKnown'. -/
def setsKnownUptoCard : Claim7 := { stood := { row := setsKnownUptoRow, standIns := [], harness := (true, "b5fe606be6afc5decc392c6cb8e3934bed14341d384051f14c84f3663dd04cc4"), looks := true }, kinds := [], alts := [], laidByText := true, laidKinds := [.data], laidTests := true, laidLooks := .later }
def SetsKnownUptoCardSaid : Prop := Claim7.holds Tryd.pinned (.plain (OpenSpec.upto setsKnownSpec)) setsKnownUptoCard

/-- THE SECOND FORM's CARD OF 'swinglelaw16.SetsVerifies'. -/
def setsVerifiesUptoCard : Claim7 := { stood := { row := setsVerifiesUptoRow, standIns := [], harness := (true, "b5fe606be6afc5decc392c6cb8e3934bed14341d384051f14c84f3663dd04cc4"), looks := true }, kinds := [], alts := [], laidByText := true, laidKinds := [.data], laidTests := true, laidLooks := .later }
def SetsVerifiesUptoCardSaid : Prop := Claim7.holds Tryd.pinned (.plain (OpenSpec.upto setsVerifiesSpec)) setsVerifiesUptoCard

/-- THE SECOND FORM's CARD OF 'swinglelaw16.SetsSound'. -/
def setsSoundUptoCard : Claim7 := { stood := { row := setsSoundUptoRow, standIns := [], harness := (true, "b5fe606be6afc5decc392c6cb8e3934bed14341d384051f14c84f3663dd04cc4"), looks := true }, kinds := [], alts := [], laidByText := true, laidKinds := [.data], laidTests := true, laidLooks := .later }
def SetsSoundUptoCardSaid : Prop := Claim7.holds Tryd.pinned (.plain (OpenSpec.upto setsSoundSpec)) setsSoundUptoCard

/-- THE SECOND FORM's CARD OF 'swinglelaw16.SetsReasons'. -/
def setsReasonsUptoCard : Claim7 := { stood := { row := setsReasonsUptoRow, standIns := [], harness := (true, "b5fe606be6afc5decc392c6cb8e3934bed14341d384051f14c84f3663dd04cc4"), looks := true }, kinds := [], alts := [], laidByText := true, laidKinds := [.data], laidTests := true, laidLooks := .later }
def SetsReasonsUptoCardSaid : Prop := Claim7.holds Tryd.pinned (.plain (OpenSpec.upto setsReasonsSpec)) setsReasonsUptoCard

/-- THE SECOND FORM's CARD OF 'swinglelaw16.SetsOrder'. -/
def setsOrderUptoCard : Claim7 := { stood := { row := setsOrderUptoRow, standIns := [], harness := (true, "b5fe606be6afc5decc392c6cb8e3934bed14341d384051f14c84f3663dd04cc4"), looks := true }, kinds := [], alts := [], laidByText := true, laidKinds := [.data], laidTests := true, laidLooks := .later }
def SetsOrderUptoCardSaid : Prop := Claim7.holds Tryd.pinned (.plain (OpenSpec.upto setsOrderSpec)) setsOrderUptoCard
end Rows
end Go.Proofs.YtilbbnjfaoldoaaDoor
