/-
  DERIVED. GIVEN WITH THE SEED: THE CARDS: each row of YtdmmegmkdhinjaaDoorRows.lean that lists a variable, with what it lists TIED to the program's text (the seventh form; the later family's looks); each row that meets fmt, with fmt's text TOLD by the authors' own Lean function (tested against real Go, not proved from fmt's source: count such statements apart). THE CARD IS WHAT COUNTS. Prove the row's statement (the work); the ties are given (YtdmmegmkdhinjaaDoorTie.lean); close each card by the builder's one call (the guide's Derived/Test/ToyasCard.lean, 'card_holds'). Laid BY PROGRAM, IN A SANDBOX (cutbox-door.mjs). By AI agents, Wed Nov 11 2026. No macro, syntax, notation, axiom, sorry.
-/
import Derived.Test.YtdmmegmkdhinjaaDoorRows
import GoSem.ClaimSeven
namespace Go.Proofs.YtdmmegmkdhinjaaDoor
namespace Rows

/-- THE TIED CARD OF 'swinglelaw14.DomainSupports'. -/
def domainSupportsCard : Claim7 := { stood := { row := domainSupportsRow, standIns := [], harness := (true, "e150d8a73f83e9e5254fd62071fee29dbc98cfe7593135170ac1bbf9adfaaa09"), looks := false }, kinds := [], alts := [], laidByText := true, laidKinds := [.data], laidTests := true, laidLooks := .later }
def DomainSupportsCardSaid : Prop := Claim7.holds Tryd.pinned (.plain (OpenSpec.ofChange domainSupportsSpec)) domainSupportsCard

/-- THE TIED CARD OF 'swinglelaw14.DomainCores'. -/
def domainCoresCard : Claim7 := { stood := { row := domainCoresRow, standIns := [], harness := (true, "e150d8a73f83e9e5254fd62071fee29dbc98cfe7593135170ac1bbf9adfaaa09"), looks := false }, kinds := [], alts := [], laidByText := true, laidKinds := [.data], laidTests := true, laidLooks := .later }
def DomainCoresCardSaid : Prop := Claim7.holds Tryd.pinned (.plain (OpenSpec.ofChange domainCoresSpec)) domainCoresCard

/-- THE TIED CARD OF 'swinglelaw14.DomainSound'. -/
def domainSoundCard : Claim7 := { stood := { row := domainSoundRow, standIns := [], harness := (true, "e150d8a73f83e9e5254fd62071fee29dbc98cfe7593135170ac1bbf9adfaaa09"), looks := false }, kinds := [], alts := [], laidByText := true, laidKinds := [.data], laidTests := true, laidLooks := .later }
def DomainSoundCardSaid : Prop := Claim7.holds Tryd.pinned (.plain (OpenSpec.ofChange domainSoundSpec)) domainSoundCard

/-- THE TIED CARD OF 'swinglelaw14.DomainKnown'. -/
def domainKnownCard : Claim7 := { stood := { row := domainKnownRow, standIns := [], harness := (true, "e150d8a73f83e9e5254fd62071fee29dbc98cfe7593135170ac1bbf9adfaaa09"), looks := false }, kinds := [], alts := [], laidByText := true, laidKinds := [.data], laidTests := true, laidLooks := .later }
def DomainKnownCardSaid : Prop := Claim7.holds Tryd.pinned (.plain (OpenSpec.ofChange domainKnownSpec)) domainKnownCard

/-- THE TIED CARD OF 'swinglelaw14.DomainReasons'. -/
def domainReasonsCard : Claim7 := { stood := { row := domainReasonsRow, standIns := [], harness := (true, "e150d8a73f83e9e5254fd62071fee29dbc98cfe7593135170ac1bbf9adfaaa09"), looks := false }, kinds := [], alts := [], laidByText := true, laidKinds := [.data], laidTests := true, laidLooks := .later }
def DomainReasonsCardSaid : Prop := Claim7.holds Tryd.pinned (.plain (OpenSpec.ofChange domainReasonsSpec)) domainReasonsCard

/-- THE TIED CARD OF 'swinglelaw14.DomainOrder'. -/
def domainOrderCard : Claim7 := { stood := { row := domainOrderRow, standIns := [], harness := (true, "e150d8a73f83e9e5254fd62071fee29dbc98cfe7593135170ac1bbf9adfaaa09"), looks := false }, kinds := [], alts := [], laidByText := true, laidKinds := [.data], laidTests := true, laidLooks := .later }
def DomainOrderCardSaid : Prop := Claim7.holds Tryd.pinned (.plain (OpenSpec.ofChange domainOrderSpec)) domainOrderCard

/-- THE SECOND FORM's CARD OF 'swinglelaw14.DomainSupports'. -/
def domainSupportsUptoCard : Claim7 := { stood := { row := domainSupportsUptoRow, standIns := [], harness := (true, "e150d8a73f83e9e5254fd62071fee29dbc98cfe7593135170ac1bbf9adfaaa09"), looks := false }, kinds := [], alts := [], laidByText := true, laidKinds := [.data], laidTests := true, laidLooks := .later }
def DomainSupportsUptoCardSaid : Prop := Claim7.holds Tryd.pinned (.plain (OpenSpec.upto domainSupportsSpec)) domainSupportsUptoCard

/-- THE SECOND FORM's CARD OF 'swinglelaw14.DomainCores'. -/
def domainCoresUptoCard : Claim7 := { stood := { row := domainCoresUptoRow, standIns := [], harness := (true, "e150d8a73f83e9e5254fd62071fee29dbc98cfe7593135170ac1bbf9adfaaa09"), looks := false }, kinds := [], alts := [], laidByText := true, laidKinds := [.data], laidTests := true, laidLooks := .later }
def DomainCoresUptoCardSaid : Prop := Claim7.holds Tryd.pinned (.plain (OpenSpec.upto domainCoresSpec)) domainCoresUptoCard

/-- THE SECOND FORM's CARD OF 'swinglelaw14.DomainSound'. -/
def domainSoundUptoCard : Claim7 := { stood := { row := domainSoundUptoRow, standIns := [], harness := (true, "e150d8a73f83e9e5254fd62071fee29dbc98cfe7593135170ac1bbf9adfaaa09"), looks := false }, kinds := [], alts := [], laidByText := true, laidKinds := [.data], laidTests := true, laidLooks := .later }
def DomainSoundUptoCardSaid : Prop := Claim7.holds Tryd.pinned (.plain (OpenSpec.upto domainSoundSpec)) domainSoundUptoCard

/-- THE SECOND FORM's CARD OF 'swinglelaw14.DomainKnown'. -/
def domainKnownUptoCard : Claim7 := { stood := { row := domainKnownUptoRow, standIns := [], harness := (true, "e150d8a73f83e9e5254fd62071fee29dbc98cfe7593135170ac1bbf9adfaaa09"), looks := false }, kinds := [], alts := [], laidByText := true, laidKinds := [.data], laidTests := true, laidLooks := .later }
def DomainKnownUptoCardSaid : Prop := Claim7.holds Tryd.pinned (.plain (OpenSpec.upto domainKnownSpec)) domainKnownUptoCard

/-- THE SECOND FORM's CARD OF 'swinglelaw14.DomainReasons'. -/
def domainReasonsUptoCard : Claim7 := { stood := { row := domainReasonsUptoRow, standIns := [], harness := (true, "e150d8a73f83e9e5254fd62071fee29dbc98cfe7593135170ac1bbf9adfaaa09"), looks := false }, kinds := [], alts := [], laidByText := true, laidKinds := [.data], laidTests := true, laidLooks := .later }
def DomainReasonsUptoCardSaid : Prop := Claim7.holds Tryd.pinned (.plain (OpenSpec.upto domainReasonsSpec)) domainReasonsUptoCard

/-- THE SECOND FORM's CARD OF 'swinglelaw14.DomainOrder'. -/
def domainOrderUptoCard : Claim7 := { stood := { row := domainOrderUptoRow, standIns := [], harness := (true, "e150d8a73f83e9e5254fd62071fee29dbc98cfe7593135170ac1bbf9adfaaa09"), looks := false }, kinds := [], alts := [], laidByText := true, laidKinds := [.data], laidTests := true, laidLooks := .later }
def DomainOrderUptoCardSaid : Prop := Claim7.holds Tryd.pinned (.plain (OpenSpec.upto domainOrderSpec)) domainOrderUptoCard
end Rows
end Go.Proofs.YtdmmegmkdhinjaaDoor
