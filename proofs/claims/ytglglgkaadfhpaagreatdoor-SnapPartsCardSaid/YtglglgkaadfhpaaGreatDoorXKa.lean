/-
  CxK34: the genesis header's name, as the program reckons it.
-/
import Derived.Test.YtglglgkaadfhpaaGreatDoorXOa
set_option linter.all false
namespace Go.Cx
set_option maxRecDepth 1000000
set_option maxHeartbeats 4000000
theorem run34 : runS 34 [gen0] = some idV := by kernel_rfl
end Go.Cx
