/-
  The row tells whether a goroutine is started behind the call.
-/
import Derived.Test.YtleafkdgnlngmaaGreatDoorCards
import Derived.Test.YtleafkdgnlngmaaGreatDoorTie
import Derived.Deep.DeepHandedRow
import Derived.PinnedBridge
import Derived.ProofKit
import Derived.Test.YtleafkdgnlngmaaGreatDoorSiFacts
set_option linter.unusedVariables false
set_option linter.unusedSimpArgs false
namespace Go.Proofs.YtleafkdgnlngmaaGreatDoor
open Go.ChangeShapes Go.WideShapes Go.ChangeAt Go.RowKit

theorem goes : false = Rows.sscInvalidRow.goesBy Tryz.pinned.checked.prog := by kernel_rfl

end Go.Proofs.YtleafkdgnlngmaaGreatDoor
