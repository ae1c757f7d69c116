/-
  The main function is the one the card names.
-/
import Derived.Test.YtephgoggipejmaaGreatDoorCards
import Derived.Test.YtephgoggipejmaaGreatDoorTie
import Derived.Deep.DeepHandedRow
import Derived.PinnedBridge
import Derived.ProofKit
import Derived.Test.YtephgoggipejmaaGreatDoorPbFacts
set_option linter.unusedVariables false
set_option linter.unusedSimpArgs false
namespace Go.Proofs.YtephgoggipejmaaGreatDoor
open Go.ChangeShapes Go.WideShapes Go.ChangeAt Go.RowKit

theorem mainAt : Tryz.pinned.checked.prog.mainIs = some (Rows.playBlocksCard.stood.harness.1, Rows.playBlocksCard.stood.harness.2.toList) := by kernel_rfl

end Go.Proofs.YtephgoggipejmaaGreatDoor
