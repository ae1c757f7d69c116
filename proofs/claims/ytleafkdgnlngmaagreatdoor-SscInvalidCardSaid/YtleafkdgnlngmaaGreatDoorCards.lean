/-
  DERIVED. GIVEN WITH THE SEED: THE CARDS: each row of YtleafkdgnlngmaaGreatDoorRows.lean that lists a variable, with what it lists TIED to the program's text (the seventh form; the later family's looks); each row that meets fmt, with fmt's text TOLD by the authors' own Lean function (tested against real Go, not proved from fmt's source: count such statements apart). THE CARD IS WHAT COUNTS. Prove the row's statement (the work); the ties are given (YtleafkdgnlngmaaGreatDoorTie.lean); close each card by the builder's one call (the guide's Derived/Test/ToyasCard.lean, 'card_holds'). Laid BY PROGRAM, IN A SANDBOX (cutbox-door.mjs). By AI agents, Wed Nov 11 2026. No macro, syntax, notation, axiom, sorry.
-/
import Derived.Test.YtleafkdgnlngmaaGreatDoorRows
import GoSem.ClaimSeven
namespace Go.Proofs.YtleafkdgnlngmaaGreatDoor
namespace Rows

/-- THE TIED CARD OF 'scullerylaw19.SscFull'. -/
def sscFullCard : Claim7 := { stood := { row := sscFullRow, standIns := [], harness := (true, "f6eb4b98477c93a4c8933142de07ccc2f50ef09d30a3f524339b40be43e0a8f2"), looks := true }, kinds := [], alts := [], laidByText := true, laidKinds := [.data, .pinned], laidTests := true, laidLooks := .later }
def SscFullCardSaid : Prop := Claim7.holds Tryz.pinned (.plain (OpenSpec.ofChange sscFullSpec)) sscFullCard

/-- THE TIED CARD OF 'scullerylaw19.SscInvalid'. -/
def sscInvalidCard : Claim7 := { stood := { row := sscInvalidRow, standIns := [], harness := (true, "f6eb4b98477c93a4c8933142de07ccc2f50ef09d30a3f524339b40be43e0a8f2"), looks := true }, kinds := [], alts := [], laidByText := true, laidKinds := [.data, .pinned], laidTests := true, laidLooks := .later }
def SscInvalidCardSaid : Prop := Claim7.holds Tryz.pinned (.plain (OpenSpec.ofChange sscInvalidSpec)) sscInvalidCard

/-- THE SECOND FORM's CARD OF 'scullerylaw19.SscFull'. -/
def sscFullUptoCard : Claim7 := { stood := { row := sscFullUptoRow, standIns := [], harness := (true, "f6eb4b98477c93a4c8933142de07ccc2f50ef09d30a3f524339b40be43e0a8f2"), looks := true }, kinds := [], alts := [], laidByText := true, laidKinds := [.data, .pinned], laidTests := true, laidLooks := .later }
def SscFullUptoCardSaid : Prop := Claim7.holds Tryz.pinned (.plain (OpenSpec.upto sscFullSpec)) sscFullUptoCard

/-- THE SECOND FORM's CARD OF 'scullerylaw19.SscInvalid'. -/
def sscInvalidUptoCard : Claim7 := { stood := { row := sscInvalidUptoRow, standIns := [], harness := (true, "f6eb4b98477c93a4c8933142de07ccc2f50ef09d30a3f524339b40be43e0a8f2"), looks := true }, kinds := [], alts := [], laidByText := true, laidKinds := [.data, .pinned], laidTests := true, laidLooks := .later }
def SscInvalidUptoCardSaid : Prop := Claim7.holds Tryz.pinned (.plain (OpenSpec.upto sscInvalidSpec)) sscInvalidUptoCard
end Rows
end Go.Proofs.YtleafkdgnlngmaaGreatDoor
