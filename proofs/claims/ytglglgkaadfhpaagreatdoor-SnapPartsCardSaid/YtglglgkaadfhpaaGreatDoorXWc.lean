/-
  CxPA3: SnapParts: a way, run.
-/
import Derived.Test.YtglglgkaadfhpaaGreatDoorXNk
set_option linter.all false
namespace Go.Cx
set_option maxRecDepth 1000000
set_option maxHeartbeats 4000000
theorem wayA3 (nm : Nat → Option Value) : runLaw nm fA3 cA3 = true := by kernel_rfl
end Go.Cx

/-
  CxPB1: SnapParts: a way, run.
-/

namespace Go.Cx
set_option maxRecDepth 1000000
set_option maxHeartbeats 4000000
theorem wayB1 (nm : Nat → Option Value) : runLaw nm fB1 cB1 = true := by kernel_rfl
end Go.Cx
