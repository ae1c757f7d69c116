/-
  Facts of the row that the kernel reckons: keys of maps, stops, entry.
-/
import Derived.Test.YtleafkdgnlngmaaGreatDoorCards
import Derived.Deep.DeepHandedRow
import Derived.PinnedBridge
import Derived.ProofKit
import Derived.Test.YtleafkdgnlngmaaGreatDoorSiFacts
set_option linter.unusedVariables false
set_option linter.unusedSimpArgs false
namespace Go.Proofs.YtleafkdgnlngmaaGreatDoor
open Go.ChangeShapes Go.WideShapes Go.ChangeAt Go.RowKit

theorem factsFc : ((Rows.sscInvalidRow.plainKeys == Tryz.prog.plainKeys) && (Tryz.prog.stopsHeard) && (Tryz.prog.mayEnter)) = true := by kernel_rfl

end Go.Proofs.YtleafkdgnlngmaaGreatDoor
