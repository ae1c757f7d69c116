/-
  The card of the row, closed by the given tie.
-/
import Derived.Test.YtleafkdgnlngmaaGreatDoorCards
import Derived.Test.YtleafkdgnlngmaaGreatDoorTie
import Derived.Deep.DeepHandedRow
import Derived.PinnedBridge
import Derived.ProofKit
import Derived.Test.YtleafkdgnlngmaaGreatDoorSiSaid
import Derived.Test.YtleafkdgnlngmaaGreatDoorSiPlain
import Derived.Test.YtleafkdgnlngmaaGreatDoorSiGoes
import Derived.Test.YtleafkdgnlngmaaGreatDoorSiMain
set_option linter.unusedVariables false
set_option linter.unusedSimpArgs false
namespace Go.Proofs.YtleafkdgnlngmaaGreatDoor
open Go.ChangeShapes Go.WideShapes Go.ChangeAt Go.RowKit

set_option maxRecDepth 100000 in
theorem SscInvalid_card : Rows.SscInvalidCardSaid :=
  Claim7.holds_tied_plain_at .later [] _ _ _ _ said (fun _ h => by cases h) (by kernel_rfl) (fun _ h => by cases h) sscInvalid_row_tie rfl ⟨rfl, rfl⟩ mainAt rfl plain goes
end Go.Proofs.YtleafkdgnlngmaaGreatDoor
