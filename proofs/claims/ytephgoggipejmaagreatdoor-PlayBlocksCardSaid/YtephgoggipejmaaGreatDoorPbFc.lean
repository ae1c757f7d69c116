/-
  Facts of the row that the kernel reckons: keys of maps, stops, entry.
-/
import Derived.Test.YtephgoggipejmaaGreatDoorCards
import Derived.Deep.DeepHandedRow
import Derived.PinnedBridge
import Derived.ProofKit
import Derived.Test.YtephgoggipejmaaGreatDoorPbFacts
set_option linter.unusedVariables false
set_option linter.unusedSimpArgs false
namespace Go.Proofs.YtephgoggipejmaaGreatDoor
open Go.ChangeShapes Go.WideShapes Go.ChangeAt Go.RowKit

theorem factsFc : ((Rows.playBlocksRow.plainKeys == Tryz.prog.plainKeys) && (Tryz.prog.stopsHeard) && (Tryz.prog.mayEnter)) = true := by kernel_rfl

end Go.Proofs.YtephgoggipejmaaGreatDoor
