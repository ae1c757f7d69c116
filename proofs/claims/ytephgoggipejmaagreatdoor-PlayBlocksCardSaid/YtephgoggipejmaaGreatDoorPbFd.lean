/-
  Facts of the row that the kernel reckons: the rest.
-/
import Derived.Test.YtephgoggipejmaaGreatDoorCards
import Derived.Deep.DeepHandedRow
import Derived.PinnedBridge
import Derived.ProofKit
import Derived.Test.YtephgoggipejmaaGreatDoorPbFacts
set_option linter.unusedVariables false
set_option linter.unusedSimpArgs false
namespace Go.Proofs.YtephgoggipejmaaGreatDoor
open Go.ChangeShapes Go.WideShapes Go.ChangeAt Go.RowKit

theorem factsFd : ((Rows.playBlocksRow.wf (OpenSpec.ofChange Rows.playBlocksSpec)) && (Tryz.f3.params.all (Tryz.prog.readableRec ·)) && (namedTie Tryz.prog Rows.playBlocksRow.named Rows.playBlocksSpec.vars) && (Rows.playBlocksRow.stops == []) && (Tryz.prog.stops == []) && (Rows.playBlocksRow.knobs == []) && (Tryz.prog.stopKnobs == []) && (Rows.playBlocksRow.maps == (Tryz.f3.params.toList ++ Rows.playBlocksSpec.plain.varTypes Tryz.prog).any (Tryz.prog.mapsRec ·)) && (Rows.playBlocksRow.ifaces == (Tryz.f3.params.toList ++ Rows.playBlocksSpec.plain.varTypes Tryz.prog).any (Tryz.prog.ifacesRec ·)) && (Rows.playBlocksRow.mapsOut == Tryz.prog.mapsAmong Tryz.f3.resultTypes.toList) && (Rows.playBlocksRow.loops == (Tryz.f3.params.toList ++ Rows.playBlocksSpec.plain.varTypes Tryz.prog).any (Tryz.prog.loopsFrom ·)) && (Rows.playBlocksRow.wideKeys == (Tryz.f3.params.toList ++ Rows.playBlocksSpec.plain.varTypes Tryz.prog ++ Tryz.f3.resultTypes.toList).any (Tryz.prog.wideKeysFrom ·)) && (Rows.playBlocksSpec.vars.all (Tryz.prog.varReadable ·)) && (Tryz.f3.resultTypes.all (fun t => Tryz.prog.readableRec t && decide (t < Tryz.prog.types.size))) && (Rows.playBlocksRow.ifacesOut == Tryz.f3.resultTypes.toList.any (Tryz.prog.ifacesRec ·)) && (Rows.playBlocksRow.loopsOut == Tryz.f3.resultTypes.toList.any (Tryz.prog.loopsFrom ·)) && (Rows.playBlocksRow.shortTexts.isNone) && (Rows.playBlocksRow.lifted == Tryz.prog.liftsFinal) && (Tryz.prog.make == some Rows.playBlocksRow.make) && (Rows.playBlocksRow.kinds == (if Rows.playBlocksRow.domain.isEmpty then [] else Tryz.f3.params.toList.map fun t => match Tryz.prog.underlying t with | some (.int k) => some k | _ => none)) && (Rows.playBlocksRow.pinned == Rows.playBlocksRow.pinnedBy) && (Rows.playBlocksRow.veiled == (Tryz.f3.params.toList ++ Rows.playBlocksSpec.plain.varTypes Tryz.prog ++ Tryz.f3.resultTypes.toList).any (Tryz.prog.veiledRec ·)) && (Rows.playBlocksRow.veiledFits Tryz.prog Tryz.f3.params.toList (Tryz.f3.params.toList ++ Rows.playBlocksSpec.plain.varTypes Tryz.prog ++ Tryz.f3.resultTypes.toList))) = true := by kernel_rfl

end Go.Proofs.YtephgoggipejmaaGreatDoor
