/- The plain law of WindowNil: what the walk computes answers true.
   Conditions: those that each theorem states ahead of its colon, and no other. -/
import Derived.Test.YtfpllbnljlbepaaGreatDoorWWindowNil
import Derived.Test.YtfpllbnljlbepaaGreatDoorPx
set_option linter.unusedSimpArgs false
set_option linter.unusedVariables false
namespace Go.Proofs.YtfpllbnljlbepaaGreatDoor.Sx
open Go
theorem pureWindowNil (u : M26) (n m : Int) (hu : wfInt .u64 u.f0 ∧ wfInt .i64 u.f1 ∧ wfInt .u64 u.f2 ∧ wfInt .i64 u.f3 ∧ wfInt .u32 u.f4 ∧ wfInt .u64 u.f5 ∧ wfSl (wfInt .u8) u.f6) (hn : wfInt .u64 n) (hm : wfInt .i64 m) : ∃ k, catenarylaw20_WindowNil k = some true := ⟨20, by kernel_rfl⟩
end Go.Proofs.YtfpllbnljlbepaaGreatDoor.Sx
