/-
  DERIVED. GIVEN WITH THE SEED: THE CARDS: each row of YteiinkhbgpldeaaGreatDoorRows.lean that lists a variable, with what it lists TIED to the program's text (the seventh form; the later family's looks); each row that meets fmt, with fmt's text TOLD by the authors' own Lean function (tested against real Go, not proved from fmt's source: count such statements apart). THE CARD IS WHAT COUNTS. Prove the row's statement (the work); the ties are given (YteiinkhbgpldeaaGreatDoorTie.lean); close each card by the builder's one call (the guide's Derived/Test/ToyasCard.lean, 'card_holds'). Laid BY PROGRAM, IN A SANDBOX (cutbox-door.mjs). By AI agents, Wed Nov 11 2026. No macro, syntax, notation, axiom, sorry.
-/
import Derived.Test.YteiinkhbgpldeaaGreatDoorRows
import GoSem.ClaimSeven
namespace Go.Proofs.YteiinkhbgpldeaaGreatDoor
namespace Rows

/-- THE TIED CARD OF 'catenarylaw26.CallerOnce'. -/
def callerOnceCard : Claim7 := { stood := { row := callerOnceRow, standIns := [], harness := (true, "f6e341d299a99742637aaacb75ff74965ca6cd7e2bcf9414fd517177663a1489"), looks := false }, kinds := [], alts := [], laidByText := true, laidKinds := [.data], laidTests := true, laidLooks := .later }
def CallerOnceCardSaid : Prop := Claim7.holds Tryz.pinned (.plain (OpenSpec.ofChange callerOnceSpec)) callerOnceCard

/-- THE TIED CARD OF 'catenarylaw26.CallerPlays'. -/
def callerPlaysCard : Claim7 := { stood := { row := callerPlaysRow, standIns := [], harness := (true, "f6e341d299a99742637aaacb75ff74965ca6cd7e2bcf9414fd517177663a1489"), looks := false }, kinds := [], alts := [], laidByText := true, laidKinds := [.data], laidTests := true, laidLooks := .later }
def CallerPlaysCardSaid : Prop := Claim7.holds Tryz.pinned (.plain (OpenSpec.ofChange callerPlaysSpec)) callerPlaysCard

/-- THE TIED CARD OF 'catenarylaw26.CallerNil'. -/
def callerNilCard : Claim7 := { stood := { row := callerNilRow, standIns := [], harness := (true, "f6e341d299a99742637aaacb75ff74965ca6cd7e2bcf9414fd517177663a1489"), looks := false }, kinds := [], alts := [], laidByText := true, laidKinds := [.data], laidTests := true, laidLooks := .later }
def CallerNilCardSaid : Prop := Claim7.holds Tryz.pinned (.plain (OpenSpec.ofChange callerNilSpec)) callerNilCard

/-- THE SECOND FORM's CARD OF 'catenarylaw26.CallerOnce'. -/
def callerOnceUptoCard : Claim7 := { stood := { row := callerOnceUptoRow, standIns := [], harness := (true, "f6e341d299a99742637aaacb75ff74965ca6cd7e2bcf9414fd517177663a1489"), looks := false }, kinds := [], alts := [], laidByText := true, laidKinds := [.data], laidTests := true, laidLooks := .later }
def CallerOnceUptoCardSaid : Prop := Claim7.holds Tryz.pinned (.plain (OpenSpec.upto callerOnceSpec)) callerOnceUptoCard

/-- THE SECOND FORM's CARD OF 'catenarylaw26.CallerPlays'. -/
def callerPlaysUptoCard : Claim7 := { stood := { row := callerPlaysUptoRow, standIns := [], harness := (true, "f6e341d299a99742637aaacb75ff74965ca6cd7e2bcf9414fd517177663a1489"), looks := false }, kinds := [], alts := [], laidByText := true, laidKinds := [.data], laidTests := true, laidLooks := .later }
def CallerPlaysUptoCardSaid : Prop := Claim7.holds Tryz.pinned (.plain (OpenSpec.upto callerPlaysSpec)) callerPlaysUptoCard

/-- THE SECOND FORM's CARD OF 'catenarylaw26.CallerNil'. -/
def callerNilUptoCard : Claim7 := { stood := { row := callerNilUptoRow, standIns := [], harness := (true, "f6e341d299a99742637aaacb75ff74965ca6cd7e2bcf9414fd517177663a1489"), looks := false }, kinds := [], alts := [], laidByText := true, laidKinds := [.data], laidTests := true, laidLooks := .later }
def CallerNilUptoCardSaid : Prop := Claim7.holds Tryz.pinned (.plain (OpenSpec.upto callerNilSpec)) callerNilUptoCard
end Rows
end Go.Proofs.YteiinkhbgpldeaaGreatDoor
