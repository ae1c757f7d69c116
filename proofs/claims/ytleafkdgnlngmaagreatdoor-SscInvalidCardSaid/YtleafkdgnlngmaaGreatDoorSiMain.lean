/-
  The main function is the one the card names.
-/
import Derived.Test.YtleafkdgnlngmaaGreatDoorCards
import Derived.Test.YtleafkdgnlngmaaGreatDoorTie
import Derived.Deep.DeepHandedRow
import Derived.PinnedBridge
import Derived.ProofKit
import Derived.Test.YtleafkdgnlngmaaGreatDoorSiFacts
set_option linter.unusedVariables false
set_option linter.unusedSimpArgs false
namespace Go.Proofs.YtleafkdgnlngmaaGreatDoor
open Go.ChangeShapes Go.WideShapes Go.ChangeAt Go.RowKit

theorem mainAt : Tryz.pinned.checked.prog.mainIs = some (Rows.sscInvalidCard.stood.harness.1, Rows.sscInvalidCard.stood.harness.2.toList) := by kernel_rfl

end Go.Proofs.YtleafkdgnlngmaaGreatDoor
