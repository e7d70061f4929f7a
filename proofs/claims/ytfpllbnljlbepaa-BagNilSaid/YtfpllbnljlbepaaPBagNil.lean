/- The plain law of BagNil: what the walk computes answers true.
   Conditions: those that each theorem states ahead of its colon, and no other. -/
import Derived.Test.YtfpllbnljlbepaaWBagNil
import Derived.Test.YtfpllbnljlbepaaPx
set_option linter.unusedSimpArgs false
set_option linter.unusedVariables false
namespace Go.Proofs.Ytfpllbnljlbepaa.Sx
open Go
theorem awake06 : catenarylaw06_awake = some true := by kernel_rfl
theorem pureBagNil (i v : Int) (hi : wfInt .i64 i) (hv : wfInt .i64 v) : ∃ k : Nat, catenarylaw06_BagNil i v = some true := by
  refine ⟨0, ?_⟩
  unfold catenarylaw06_BagNil
  rw [awake06]
  rfl
end Go.Proofs.Ytfpllbnljlbepaa.Sx
