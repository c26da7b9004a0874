/-
  CxPB2: SnapParts: a way, run.
-/
import Derived.Test.YtglglgkaadfhpaaGreatDoorXNk
set_option linter.all false
namespace Go.Cx
set_option maxRecDepth 1000000
set_option maxHeartbeats 4000000
theorem wayB2 (nm : Nat → Option Value) : runLaw nm fB2 cB2 = true := by kernel_rfl
end Go.Cx

/-
  CxPC: SnapParts: a way, run.
-/

namespace Go.Cx
set_option maxRecDepth 1000000
set_option maxHeartbeats 4000000
theorem wayC (nm : Nat → Option Value) : runLaw nm fC cC = true := by kernel_rfl
end Go.Cx
