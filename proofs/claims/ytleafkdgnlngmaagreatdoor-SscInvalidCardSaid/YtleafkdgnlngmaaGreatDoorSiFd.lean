/-
  Facts of the row that the kernel reckons: the rest.
-/
import Derived.Test.YtleafkdgnlngmaaGreatDoorCards
import Derived.Deep.DeepHandedRow
import Derived.PinnedBridge
import Derived.ProofKit
import Derived.Test.YtleafkdgnlngmaaGreatDoorSiFacts
set_option linter.unusedVariables false
set_option linter.unusedSimpArgs false
namespace Go.Proofs.YtleafkdgnlngmaaGreatDoor
open Go.ChangeShapes Go.WideShapes Go.ChangeAt Go.RowKit

theorem factsFd : ((Rows.sscInvalidRow.wf (OpenSpec.ofChange Rows.sscInvalidSpec)) && (Tryz.f4.params.all (Tryz.prog.readableRec ·)) && (namedTie Tryz.prog Rows.sscInvalidRow.named Rows.sscInvalidSpec.vars) && (Rows.sscInvalidRow.stops == []) && (Tryz.prog.stops == []) && (Rows.sscInvalidRow.knobs == []) && (Tryz.prog.stopKnobs == []) && (Rows.sscInvalidRow.maps == (Tryz.f4.params.toList ++ Rows.sscInvalidSpec.plain.varTypes Tryz.prog).any (Tryz.prog.mapsRec ·)) && (Rows.sscInvalidRow.ifaces == (Tryz.f4.params.toList ++ Rows.sscInvalidSpec.plain.varTypes Tryz.prog).any (Tryz.prog.ifacesRec ·)) && (Rows.sscInvalidRow.mapsOut == Tryz.prog.mapsAmong Tryz.f4.resultTypes.toList) && (Rows.sscInvalidRow.loops == (Tryz.f4.params.toList ++ Rows.sscInvalidSpec.plain.varTypes Tryz.prog).any (Tryz.prog.loopsFrom ·)) && (Rows.sscInvalidRow.wideKeys == (Tryz.f4.params.toList ++ Rows.sscInvalidSpec.plain.varTypes Tryz.prog ++ Tryz.f4.resultTypes.toList).any (Tryz.prog.wideKeysFrom ·)) && (Rows.sscInvalidSpec.vars.all (Tryz.prog.varReadable ·)) && (Tryz.f4.resultTypes.all (fun t => Tryz.prog.readableRec t && decide (t < Tryz.prog.types.size))) && (Rows.sscInvalidRow.ifacesOut == Tryz.f4.resultTypes.toList.any (Tryz.prog.ifacesRec ·)) && (Rows.sscInvalidRow.loopsOut == Tryz.f4.resultTypes.toList.any (Tryz.prog.loopsFrom ·)) && (Rows.sscInvalidRow.shortTexts.isNone) && (Rows.sscInvalidRow.lifted == Tryz.prog.liftsFinal) && (Tryz.prog.make == some Rows.sscInvalidRow.make) && (Rows.sscInvalidRow.kinds == (if Rows.sscInvalidRow.domain.isEmpty then [] else Tryz.f4.params.toList.map fun t => match Tryz.prog.underlying t with | some (.int k) => some k | _ => none)) && (Rows.sscInvalidRow.pinned == Rows.sscInvalidRow.pinnedBy) && (Rows.sscInvalidRow.veiled == (Tryz.f4.params.toList ++ Rows.sscInvalidSpec.plain.varTypes Tryz.prog ++ Tryz.f4.resultTypes.toList).any (Tryz.prog.veiledRec ·)) && (Rows.sscInvalidRow.veiledFits Tryz.prog Tryz.f4.params.toList (Tryz.f4.params.toList ++ Rows.sscInvalidSpec.plain.varTypes Tryz.prog ++ Tryz.f4.resultTypes.toList))) = true := by kernel_rfl

end Go.Proofs.YtleafkdgnlngmaaGreatDoor
