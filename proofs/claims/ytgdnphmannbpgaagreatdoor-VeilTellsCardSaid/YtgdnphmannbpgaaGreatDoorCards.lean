/-
  DERIVED. GIVEN WITH THE SEED: THE CARDS: each row of YtgdnphmannbpgaaGreatDoorRows.lean that lists a variable, with what it lists TIED to the program's text (the seventh form; the later family's looks); each row that meets fmt, with fmt's text TOLD by the authors' own Lean function (tested against real Go, not proved from fmt's source: count such statements apart). THE CARD IS WHAT COUNTS. Prove the row's statement (the work); the ties are given (YtgdnphmannbpgaaGreatDoorTie.lean); close each card by the builder's one call (the guide's Derived/Test/ToyasCard.lean, 'card_holds'). Laid BY PROGRAM, IN A SANDBOX (cutbox-door.mjs). By AI agents, Wed Nov 11 2026. No macro, syntax, notation, axiom, sorry.
-/
import Derived.Test.YtgdnphmannbpgaaGreatDoorRows
import GoSem.ClaimSeven
namespace Go.Proofs.YtgdnphmannbpgaaGreatDoor
namespace Rows

/-- THE TIED CARD OF 'bowdlerlaw7.VeilTells'. -/
def veilTellsCard : Claim7 := { stood := { row := veilTellsRow, standIns := [], harness := (true, "e043f3e65a318f32d30200c5637c64a7058386b6e78b2ee47964109cd7096f1f"), looks := false }, kinds := [], alts := [], laidByText := true, laidKinds := [.data, .pinned], laidTests := true, laidLooks := .later }
def VeilTellsCardSaid : Prop := Claim7.holds Tryz.pinned (.plain (OpenSpec.ofChange veilTellsSpec)) veilTellsCard

/-- THE SECOND FORM's CARD OF 'bowdlerlaw7.VeilTells'. -/
def veilTellsUptoCard : Claim7 := { stood := { row := veilTellsUptoRow, standIns := [], harness := (true, "e043f3e65a318f32d30200c5637c64a7058386b6e78b2ee47964109cd7096f1f"), looks := false }, kinds := [], alts := [], laidByText := true, laidKinds := [.data, .pinned], laidTests := true, laidLooks := .later }
def VeilTellsUptoCardSaid : Prop := Claim7.holds Tryz.pinned (.plain (OpenSpec.upto veilTellsSpec)) veilTellsUptoCard
end Rows
end Go.Proofs.YtgdnphmannbpgaaGreatDoor
