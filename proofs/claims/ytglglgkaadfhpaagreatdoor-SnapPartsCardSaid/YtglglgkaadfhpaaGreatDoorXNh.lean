/-
  CxNh: Tipset's runs: names that do not rise; keys of no whole number of names.
-/
import Derived.Test.YtglglgkaadfhpaaGreatDoorXNd
set_option linter.all false
namespace Go.Cx
set_option maxRecDepth 1000000
set_option maxHeartbeats 4000000

def failCases : List (Nat × Nat) := [(2, 1), (3, 1), (3, 2), (4, 1), (4, 2), (4, 3), (5, 1), (5, 2), (5, 3), (5, 4)]

theorem runs_fail (nm : Nat → Option Value) : (failCases.all fun x => isSome (errV 1) (runQ nm x.1 none false (ordFail x.2 0)) && isSome (errV 1) (runQ nm x.1 none false (ordFail x.2 1))) = true := by kernel_rfl

end Go.Cx
