/-
  Facts of the row that the kernel reckons: what the code behind the call names.
-/
import Derived.Test.YtleafkdgnlngmaaGreatDoorCards
import Derived.Deep.DeepHandedRow
import Derived.PinnedBridge
import Derived.ProofKit
import Derived.Test.YtleafkdgnlngmaaGreatDoorSiFacts
set_option linter.unusedVariables false
set_option linter.unusedSimpArgs false
namespace Go.Proofs.YtleafkdgnlngmaaGreatDoor
open Go.ChangeShapes Go.WideShapes Go.ChangeAt Go.RowKit

theorem factsFa : ((Rows.sscInvalidRow.inPlace == Tryz.prog.inPlace 4) && (Rows.sscInvalidRow.unfollowed == Tryz.prog.unfollowed 4) && (Rows.sscInvalidRow.recurses == Tryz.prog.recurses 4) && (Rows.sscInvalidRow.named == Tryz.prog.varsNamed 4)) = true := by kernel_rfl

end Go.Proofs.YtleafkdgnlngmaaGreatDoor
