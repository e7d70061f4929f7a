/-
  DERIVED. GIVEN WITH THE SEED: THE CARDS: each row of YtfpllbnljlbepaaGreatDoorRows.lean that lists a variable, with what it lists TIED to the program's text (the seventh form; the later family's looks); each row that meets fmt, with fmt's text TOLD by the authors' own Lean function (tested against real Go, not proved from fmt's source: count such statements apart). THE CARD IS WHAT COUNTS. Prove the row's statement (the work); the ties are given (YtfpllbnljlbepaaGreatDoorTie.lean); close each card by the builder's one call (the guide's Derived/Test/ToyasCard.lean, 'card_holds'). Laid BY PROGRAM, IN A SANDBOX (cutbox-door.mjs). By AI agents, Wed Nov 11 2026. No macro, syntax, notation, axiom, sorry.
-/
import Derived.Test.YtfpllbnljlbepaaGreatDoorRows
import GoSem.ClaimSeven
namespace Go.Proofs.YtfpllbnljlbepaaGreatDoor
namespace Rows

/-- THE TIED CARD OF 'catenarylaw17.UpdateChecks'. -/
def updateChecksCard : Claim7 := { stood := { row := updateChecksRow, standIns := [], harness := (true, "c462a97495a7348ad7cbbc40ba213fad14dac06a584b2d5dd41bcfca317f5473"), looks := false }, kinds := [], alts := [], laidByText := true, laidKinds := [.data], laidTests := true, laidLooks := .later }
def UpdateChecksCardSaid : Prop := Claim7.holds Tryz.pinned (.plain (OpenSpec.ofChange updateChecksSpec)) updateChecksCard

/-- THE TIED CARD OF 'catenarylaw17.UpdateRequests'. -/
def updateRequestsCard : Claim7 := { stood := { row := updateRequestsRow, standIns := [], harness := (true, "c462a97495a7348ad7cbbc40ba213fad14dac06a584b2d5dd41bcfca317f5473"), looks := false }, kinds := [], alts := [], laidByText := true, laidKinds := [.data], laidTests := true, laidLooks := .later }
def UpdateRequestsCardSaid : Prop := Claim7.holds Tryz.pinned (.plain (OpenSpec.ofChange updateRequestsSpec)) updateRequestsCard

/-- THE TIED CARD OF 'catenarylaw20.WindowOnce'. -/
def windowOnceCard : Claim7 := { stood := { row := windowOnceRow, standIns := [], harness := (true, "c462a97495a7348ad7cbbc40ba213fad14dac06a584b2d5dd41bcfca317f5473"), looks := false }, kinds := [], alts := [], laidByText := true, laidKinds := [.data], laidTests := true, laidLooks := .later }
def WindowOnceCardSaid : Prop := Claim7.holds Tryz.pinned (.plain (OpenSpec.ofChange windowOnceSpec)) windowOnceCard

/-- THE TIED CARD OF 'catenarylaw20.WindowPlays'. -/
def windowPlaysCard : Claim7 := { stood := { row := windowPlaysRow, standIns := [], harness := (true, "c462a97495a7348ad7cbbc40ba213fad14dac06a584b2d5dd41bcfca317f5473"), looks := false }, kinds := [], alts := [], laidByText := true, laidKinds := [.data], laidTests := true, laidLooks := .later }
def WindowPlaysCardSaid : Prop := Claim7.holds Tryz.pinned (.plain (OpenSpec.ofChange windowPlaysSpec)) windowPlaysCard

/-- THE TIED CARD OF 'catenarylaw20.WindowNil'. -/
def windowNilCard : Claim7 := { stood := { row := windowNilRow, standIns := [], harness := (true, "c462a97495a7348ad7cbbc40ba213fad14dac06a584b2d5dd41bcfca317f5473"), looks := false }, kinds := [], alts := [], laidByText := true, laidKinds := [.data], laidTests := true, laidLooks := .later }
def WindowNilCardSaid : Prop := Claim7.holds Tryz.pinned (.plain (OpenSpec.ofChange windowNilSpec)) windowNilCard

/-- THE SECOND FORM's CARD OF 'catenarylaw17.UpdateChecks'. -/
def updateChecksUptoCard : Claim7 := { stood := { row := updateChecksUptoRow, standIns := [], harness := (true, "c462a97495a7348ad7cbbc40ba213fad14dac06a584b2d5dd41bcfca317f5473"), looks := false }, kinds := [], alts := [], laidByText := true, laidKinds := [.data], laidTests := true, laidLooks := .later }
def UpdateChecksUptoCardSaid : Prop := Claim7.holds Tryz.pinned (.plain (OpenSpec.upto updateChecksSpec)) updateChecksUptoCard

/-- THE SECOND FORM's CARD OF 'catenarylaw17.UpdateRequests'. -/
def updateRequestsUptoCard : Claim7 := { stood := { row := updateRequestsUptoRow, standIns := [], harness := (true, "c462a97495a7348ad7cbbc40ba213fad14dac06a584b2d5dd41bcfca317f5473"), looks := false }, kinds := [], alts := [], laidByText := true, laidKinds := [.data], laidTests := true, laidLooks := .later }
def UpdateRequestsUptoCardSaid : Prop := Claim7.holds Tryz.pinned (.plain (OpenSpec.upto updateRequestsSpec)) updateRequestsUptoCard

/-- THE SECOND FORM's CARD OF 'catenarylaw20.WindowOnce'. -/
def windowOnceUptoCard : Claim7 := { stood := { row := windowOnceUptoRow, standIns := [], harness := (true, "c462a97495a7348ad7cbbc40ba213fad14dac06a584b2d5dd41bcfca317f5473"), looks := false }, kinds := [], alts := [], laidByText := true, laidKinds := [.data], laidTests := true, laidLooks := .later }
def WindowOnceUptoCardSaid : Prop := Claim7.holds Tryz.pinned (.plain (OpenSpec.upto windowOnceSpec)) windowOnceUptoCard

/-- THE SECOND FORM's CARD OF 'catenarylaw20.WindowPlays'. -/
def windowPlaysUptoCard : Claim7 := { stood := { row := windowPlaysUptoRow, standIns := [], harness := (true, "c462a97495a7348ad7cbbc40ba213fad14dac06a584b2d5dd41bcfca317f5473"), looks := false }, kinds := [], alts := [], laidByText := true, laidKinds := [.data], laidTests := true, laidLooks := .later }
def WindowPlaysUptoCardSaid : Prop := Claim7.holds Tryz.pinned (.plain (OpenSpec.upto windowPlaysSpec)) windowPlaysUptoCard

/-- THE SECOND FORM's CARD OF 'catenarylaw20.WindowNil'. -/
def windowNilUptoCard : Claim7 := { stood := { row := windowNilUptoRow, standIns := [], harness := (true, "c462a97495a7348ad7cbbc40ba213fad14dac06a584b2d5dd41bcfca317f5473"), looks := false }, kinds := [], alts := [], laidByText := true, laidKinds := [.data], laidTests := true, laidLooks := .later }
def WindowNilUptoCardSaid : Prop := Claim7.holds Tryz.pinned (.plain (OpenSpec.upto windowNilSpec)) windowNilUptoCard
end Rows
end Go.Proofs.YtfpllbnljlbepaaGreatDoor
