/-
  DERIVED. GIVEN WITH THE SEED: THE CARDS: each row of YtdmmegmkdhinjaaGreatDoorRows.lean that lists a variable, with what it lists TIED to the program's text (the seventh form; the later family's looks); each row that meets fmt, with fmt's text TOLD by the authors' own Lean function (tested against real Go, not proved from fmt's source: count such statements apart). THE CARD IS WHAT COUNTS. Prove the row's statement (the work); the ties are given (YtdmmegmkdhinjaaGreatDoorTie.lean); close each card by the builder's one call (the guide's Derived/Test/ToyasCard.lean, 'card_holds'). Laid BY PROGRAM, IN A SANDBOX (cutbox-door.mjs). By AI agents, Wed Nov 11 2026. No macro, syntax, notation, axiom, sorry.
-/
import Derived.Test.YtdmmegmkdhinjaaGreatDoorRows
import GoSem.ClaimSeven
namespace Go.Proofs.YtdmmegmkdhinjaaGreatDoor
namespace Rows

/-- THE TIED CARD OF 'swinglelaw14.DomainPropagates'. -/
def domainPropagatesCard : Claim7 := { stood := { row := domainPropagatesRow, standIns := [], harness := (true, "62637eccdd43875742cfa89d06d6422752d81b440ac9ba6c50d1541d48c0baec"), looks := false }, kinds := [], alts := [], laidByText := true, laidKinds := [.data], laidTests := true, laidLooks := .later }
def DomainPropagatesCardSaid : Prop := Claim7.holds Tryz.pinned (.plain (OpenSpec.ofChange domainPropagatesSpec)) domainPropagatesCard

/-- THE TIED CARD OF 'swinglelaw14.DomainVerifies'. -/
def domainVerifiesCard : Claim7 := { stood := { row := domainVerifiesRow, standIns := [], harness := (true, "62637eccdd43875742cfa89d06d6422752d81b440ac9ba6c50d1541d48c0baec"), looks := false }, kinds := [], alts := [], laidByText := true, laidKinds := [.data], laidTests := true, laidLooks := .later }
def DomainVerifiesCardSaid : Prop := Claim7.holds Tryz.pinned (.plain (OpenSpec.ofChange domainVerifiesSpec)) domainVerifiesCard

/-- THE TIED CARD OF 'swinglelaw14.DomainSolves'. -/
def domainSolvesCard : Claim7 := { stood := { row := domainSolvesRow, standIns := [], harness := (true, "62637eccdd43875742cfa89d06d6422752d81b440ac9ba6c50d1541d48c0baec"), looks := false }, kinds := [], alts := [], laidByText := true, laidKinds := [.data], laidTests := true, laidLooks := .later }
def DomainSolvesCardSaid : Prop := Claim7.holds Tryz.pinned (.plain (OpenSpec.ofChange domainSolvesSpec)) domainSolvesCard

/-- THE TIED CARD OF 'swinglelaw14.DomainAll'. -/
def domainAllCard : Claim7 := { stood := { row := domainAllRow, standIns := [], harness := (true, "62637eccdd43875742cfa89d06d6422752d81b440ac9ba6c50d1541d48c0baec"), looks := false }, kinds := [], alts := [], laidByText := true, laidKinds := [.data], laidTests := true, laidLooks := .later }
def DomainAllCardSaid : Prop := Claim7.holds Tryz.pinned (.plain (OpenSpec.ofChange domainAllSpec)) domainAllCard

/-- THE SECOND FORM's CARD OF 'swinglelaw14.DomainPropagates'. -/
def domainPropagatesUptoCard : Claim7 := { stood := { row := domainPropagatesUptoRow, standIns := [], harness := (true, "62637eccdd43875742cfa89d06d6422752d81b440ac9ba6c50d1541d48c0baec"), looks := false }, kinds := [], alts := [], laidByText := true, laidKinds := [.data], laidTests := true, laidLooks := .later }
def DomainPropagatesUptoCardSaid : Prop := Claim7.holds Tryz.pinned (.plain (OpenSpec.upto domainPropagatesSpec)) domainPropagatesUptoCard

/-- THE SECOND FORM's CARD OF 'swinglelaw14.DomainVerifies'. -/
def domainVerifiesUptoCard : Claim7 := { stood := { row := domainVerifiesUptoRow, standIns := [], harness := (true, "62637eccdd43875742cfa89d06d6422752d81b440ac9ba6c50d1541d48c0baec"), looks := false }, kinds := [], alts := [], laidByText := true, laidKinds := [.data], laidTests := true, laidLooks := .later }
def DomainVerifiesUptoCardSaid : Prop := Claim7.holds Tryz.pinned (.plain (OpenSpec.upto domainVerifiesSpec)) domainVerifiesUptoCard

/-- THE SECOND FORM's CARD OF 'swinglelaw14.DomainSolves'. -/
def domainSolvesUptoCard : Claim7 := { stood := { row := domainSolvesUptoRow, standIns := [], harness := (true, "62637eccdd43875742cfa89d06d6422752d81b440ac9ba6c50d1541d48c0baec"), looks := false }, kinds := [], alts := [], laidByText := true, laidKinds := [.data], laidTests := true, laidLooks := .later }
def DomainSolvesUptoCardSaid : Prop := Claim7.holds Tryz.pinned (.plain (OpenSpec.upto domainSolvesSpec)) domainSolvesUptoCard

/-- THE SECOND FORM's CARD OF 'swinglelaw14.DomainAll'. -/
def domainAllUptoCard : Claim7 := { stood := { row := domainAllUptoRow, standIns := [], harness := (true, "62637eccdd43875742cfa89d06d6422752d81b440ac9ba6c50d1541d48c0baec"), looks := false }, kinds := [], alts := [], laidByText := true, laidKinds := [.data], laidTests := true, laidLooks := .later }
def DomainAllUptoCardSaid : Prop := Claim7.holds Tryz.pinned (.plain (OpenSpec.upto domainAllSpec)) domainAllUptoCard
end Rows
end Go.Proofs.YtdmmegmkdhinjaaGreatDoor
