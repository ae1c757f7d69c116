/-
  Facts of the row that the kernel reckons: what the code behind the call names.
-/
import Derived.Test.YtephgoggipejmaaGreatDoorCards
import Derived.Deep.DeepHandedRow
import Derived.PinnedBridge
import Derived.ProofKit
import Derived.Test.YtephgoggipejmaaGreatDoorPbFacts
set_option linter.unusedVariables false
set_option linter.unusedSimpArgs false
namespace Go.Proofs.YtephgoggipejmaaGreatDoor
open Go.ChangeShapes Go.WideShapes Go.ChangeAt Go.RowKit

theorem factsFa : ((Rows.playBlocksRow.inPlace == Tryz.prog.inPlace 3) && (Rows.playBlocksRow.unfollowed == Tryz.prog.unfollowed 3) && (Rows.playBlocksRow.recurses == Tryz.prog.recurses 3) && (Rows.playBlocksRow.named == Tryz.prog.varsNamed 3)) = true := by kernel_rfl

end Go.Proofs.YtephgoggipejmaaGreatDoor
