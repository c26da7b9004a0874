/-
  CxNp: SnapParts: the closed facts of its row, each a text's theorem of its own (the kernel's memory).
-/
import Derived.Test.YtglglgkaadfhpaaGreatDoorCards
import Derived.Test.YtglglgkaadfhpaaGreatDoorTie
import Derived.WalkKit
import Derived.ProofKit
import Derived.OpenShut
import Derived.Deep.DeepHandedRow
import Derived.Lib.LaidTab
import Derived.Stop.LaidErr
set_option linter.all false
namespace Go.Proofs.YtglglgkaadfhpaaGreatDoor
open Go.ChangeShapes Go.WideShapes Go.ChangeAt Go.RowKit
set_option maxRecDepth 100000

theorem closedF : joinedFacts Tryz.pinned.checked.prog 3 Tryz.f3 (OpenSpec.ofChange Rows.snapPartsSpec).bare Rows.snapPartsRow = true := by kernel_rfl
theorem namedF : Tryz.pinned.checked.prog.funcNamed Rows.snapPartsRow.func = some 3 := by kernel_rfl
theorem instF : Tryz.f3.isInstance Tryz.pinned.checked.prog Rows.snapPartsRow.origin Rows.snapPartsRow.targs := of_decide_eq_true (by kernel_rfl)
theorem wrapF : Tryz.f3.isWrapper Tryz.pinned.checked.prog Rows.snapPartsRow.wrapper Rows.snapPartsRow.mainSum := by
  unfold Func.isWrapper; first | (rw [if_pos (by decide +kernel)]; kernel_rfl) | (rw [if_neg (by decide +kernel)]; exact ⟨rfl, rfl⟩)

end Go.Proofs.YtglglgkaadfhpaaGreatDoor
