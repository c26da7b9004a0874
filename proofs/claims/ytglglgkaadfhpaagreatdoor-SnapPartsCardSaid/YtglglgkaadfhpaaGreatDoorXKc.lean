/-
  CxK155: the genesis header's name, as the document's answer reckons it.
-/
import Derived.Test.YtglglgkaadfhpaaGreatDoorXOa
set_option linter.all false
namespace Go.Cx
set_option maxRecDepth 1000000
set_option maxHeartbeats 4000000
theorem run155 : runS 155 [gen0] = some idS := by kernel_rfl
end Go.Cx
