/-
  CxPA1: SnapParts: a way, run.
-/
import Derived.Test.YtglglgkaadfhpaaGreatDoorXNk
set_option linter.all false
namespace Go.Cx
set_option maxRecDepth 1000000
set_option maxHeartbeats 4000000
theorem wayA1 (nm : Nat → Option Value) : runLaw nm fA1 cA1 = true := by kernel_rfl
end Go.Cx
