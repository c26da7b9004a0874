/-
  DERIVED. GIVEN WITH THE SEED: THE CARDS: each row of YtglglgkaadfhpaaGreatDoorRows.lean that lists a variable, with what it lists TIED to the program's text (the seventh form; the later family's looks); each row that meets fmt, with fmt's text TOLD by the authors' own Lean function (tested against real Go, not proved from fmt's source: count such statements apart). THE CARD IS WHAT COUNTS. Prove the row's statement (the work); the ties are given (YtglglgkaadfhpaaGreatDoorTie.lean); close each card by the builder's one call (the guide's Derived/Test/ToyasCard.lean, 'card_holds'). Laid BY PROGRAM, IN A SANDBOX (cutbox-door.mjs). By AI agents, Wed Nov 11 2026. No macro, syntax, notation, axiom, sorry.
-/
import Derived.Test.YtglglgkaadfhpaaGreatDoorRows
import GoSem.ClaimSeven
namespace Go.Proofs.YtglglgkaadfhpaaGreatDoor
namespace Rows

/-- THE TIED CARD OF 'coxswainlaw22.SnapParts'. -/
def snapPartsCard : Claim7 := { stood := { row := snapPartsRow, standIns := [], harness := (true, "d4419b05eedeaee77fdfdc51eeaeebafe3ca1c7d01dd6317044f886d534a490a"), looks := false }, kinds := [], alts := [], laidByText := true, laidKinds := [.data, .data], laidTests := true, laidLooks := .later }
def SnapPartsCardSaid : Prop := Claim7.holds Tryz.pinned (.plain (OpenSpec.ofChange snapPartsSpec)) snapPartsCard

/-- THE SECOND FORM's CARD OF 'coxswainlaw22.SnapParts'. -/
def snapPartsUptoCard : Claim7 := { stood := { row := snapPartsUptoRow, standIns := [], harness := (true, "d4419b05eedeaee77fdfdc51eeaeebafe3ca1c7d01dd6317044f886d534a490a"), looks := false }, kinds := [], alts := [], laidByText := true, laidKinds := [.data, .data], laidTests := true, laidLooks := .later }
def SnapPartsUptoCardSaid : Prop := Claim7.holds Tryz.pinned (.plain (OpenSpec.upto snapPartsSpec)) snapPartsUptoCard
end Rows
end Go.Proofs.YtglglgkaadfhpaaGreatDoor
