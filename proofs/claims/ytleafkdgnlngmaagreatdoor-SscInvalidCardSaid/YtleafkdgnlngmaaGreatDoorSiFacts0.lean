/-
  Facts of the row that the kernel reckons: joined.
-/
import Derived.Test.YtleafkdgnlngmaaGreatDoorCards
import Derived.Deep.DeepHandedRow
import Derived.PinnedBridge
import Derived.ProofKit
import Derived.Test.YtleafkdgnlngmaaGreatDoorSiFa
import Derived.Test.YtleafkdgnlngmaaGreatDoorSiFb
import Derived.Test.YtleafkdgnlngmaaGreatDoorSiFc
import Derived.Test.YtleafkdgnlngmaaGreatDoorSiFd
set_option linter.unusedVariables false
set_option linter.unusedSimpArgs false
namespace Go.Proofs.YtleafkdgnlngmaaGreatDoor
open Go.ChangeShapes Go.WideShapes Go.ChangeAt Go.RowKit

set_option maxRecDepth 100000 in
theorem facts : joinedFacts Tryz.prog 4 Tryz.f4 Rows.sscInvalidSpec Rows.sscInvalidRow = true := by
  have hFa := factsFa
  have hFb := factsFb
  have hFc := factsFc
  have hFd := factsFd
  simp only [Bool.and_eq_true] at hFa hFb hFc hFd
  obtain ⟨⟨⟨kip, kun⟩, kre⟩, kna⟩ := hFa
  obtain ⟨klo, kmr⟩ := hFb
  obtain ⟨⟨kpk, khd⟩, kme⟩ := hFc
  obtain ⟨⟨⟨⟨⟨⟨⟨⟨⟨⟨⟨⟨⟨⟨⟨⟨⟨⟨⟨⟨⟨⟨kwf, kpr⟩, knt⟩, kst⟩, kps⟩, kkn⟩, ksk⟩, kma⟩, kif⟩, kmo⟩, klp⟩, kwk⟩, kva⟩, krt⟩, kio⟩, klx⟩, ksh⟩, kli⟩, kmk⟩, kki⟩, kpi⟩, kve⟩, kvf⟩ := hFd
  unfold joinedFacts
  simp only [Bool.and_eq_true]
  exact ⟨⟨⟨⟨⟨⟨⟨⟨⟨⟨⟨⟨⟨⟨⟨⟨⟨⟨⟨⟨⟨⟨⟨⟨⟨⟨⟨⟨⟨⟨⟨kwf, klo⟩, kmr⟩, kpr⟩, knt⟩, kst⟩, kps⟩, kkn⟩, ksk⟩, kip⟩, kun⟩, kre⟩, kna⟩, kma⟩, kif⟩, kmo⟩, klp⟩, kwk⟩, kva⟩, krt⟩, kio⟩, klx⟩, kpk⟩, ksh⟩, khd⟩, kme⟩, kli⟩, kmk⟩, kki⟩, kpi⟩, kve⟩, kvf⟩

end Go.Proofs.YtleafkdgnlngmaaGreatDoor
