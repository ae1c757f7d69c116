/-
  DERIVED. GIVEN WITH THE SEED: THE CARDS: each row of YtephgoggipejmaaGreatDoorRows.lean that lists a variable, with what it lists TIED to the program's text (the seventh form; the later family's looks); each row that meets fmt, with fmt's text TOLD by the authors' own Lean function (tested against real Go, not proved from fmt's source: count such statements apart). THE CARD IS WHAT COUNTS. Prove the row's statement (the work); the ties are given (YtephgoggipejmaaGreatDoorTie.lean); close each card by the builder's one call (the guide's Derived/Test/ToyasCard.lean, 'card_holds'). Laid BY PROGRAM, IN A SANDBOX (cutbox-door.mjs). By AI agents, Wed Nov 11 2026. No macro, syntax, notation, axiom, sorry.
-/
import Derived.Test.YtephgoggipejmaaGreatDoorRows
import GoSem.ClaimSeven
namespace Go.Proofs.YtephgoggipejmaaGreatDoor
namespace Rows

/-- THE TIED CARD OF 'scullerylaw25.PlayBlocks'. -/
def playBlocksCard : Claim7 := { stood := { row := playBlocksRow, standIns := [], harness := (true, "967f34b5f1a5712ec8347e235b38a6691738b3476d48c1de792481306791d9c9"), looks := true }, kinds := [], alts := [], laidByText := true, laidKinds := [.data, .pinned], laidTests := true, laidLooks := .later }
def PlayBlocksCardSaid : Prop := Claim7.holds Tryz.pinned (.plain (OpenSpec.ofChange playBlocksSpec)) playBlocksCard

/-- THE SECOND FORM's CARD OF 'scullerylaw25.PlayBlocks'. -/
def playBlocksUptoCard : Claim7 := { stood := { row := playBlocksUptoRow, standIns := [], harness := (true, "967f34b5f1a5712ec8347e235b38a6691738b3476d48c1de792481306791d9c9"), looks := true }, kinds := [], alts := [], laidByText := true, laidKinds := [.data, .pinned], laidTests := true, laidLooks := .later }
def PlayBlocksUptoCardSaid : Prop := Claim7.holds Tryz.pinned (.plain (OpenSpec.upto playBlocksSpec)) playBlocksUptoCard
end Rows
end Go.Proofs.YtephgoggipejmaaGreatDoor
