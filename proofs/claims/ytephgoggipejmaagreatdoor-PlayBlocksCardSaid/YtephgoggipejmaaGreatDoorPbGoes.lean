/-
  The row tells whether a goroutine is started behind the call.
-/
import Derived.Test.YtephgoggipejmaaGreatDoorCards
import Derived.Test.YtephgoggipejmaaGreatDoorTie
import Derived.Deep.DeepHandedRow
import Derived.PinnedBridge
import Derived.ProofKit
import Derived.Test.YtephgoggipejmaaGreatDoorPbFacts
set_option linter.unusedVariables false
set_option linter.unusedSimpArgs false
namespace Go.Proofs.YtephgoggipejmaaGreatDoor
open Go.ChangeShapes Go.WideShapes Go.ChangeAt Go.RowKit

theorem goes : false = Rows.playBlocksRow.goesBy Tryz.pinned.checked.prog := by kernel_rfl

end Go.Proofs.YtephgoggipejmaaGreatDoor
