/-
  The card of the row, closed by the given tie.
-/
import Derived.Test.YtephgoggipejmaaGreatDoorCards
import Derived.Test.YtephgoggipejmaaGreatDoorTie
import Derived.Deep.DeepHandedRow
import Derived.PinnedBridge
import Derived.ProofKit
import Derived.Test.YtephgoggipejmaaGreatDoorPbSaid
import Derived.Test.YtephgoggipejmaaGreatDoorPbPlain
import Derived.Test.YtephgoggipejmaaGreatDoorPbGoes
import Derived.Test.YtephgoggipejmaaGreatDoorPbMain
set_option linter.unusedVariables false
set_option linter.unusedSimpArgs false
namespace Go.Proofs.YtephgoggipejmaaGreatDoor
open Go.ChangeShapes Go.WideShapes Go.ChangeAt Go.RowKit

set_option maxRecDepth 100000 in
theorem PlayBlocks_card : Rows.PlayBlocksCardSaid :=
  Claim7.holds_tied_plain_at .later [] _ _ _ _ said (fun _ h => by cases h) (by kernel_rfl) (fun _ h => by cases h) playBlocks_row_tie rfl ⟨rfl, rfl⟩ mainAt rfl plain goes
end Go.Proofs.YtephgoggipejmaaGreatDoor
