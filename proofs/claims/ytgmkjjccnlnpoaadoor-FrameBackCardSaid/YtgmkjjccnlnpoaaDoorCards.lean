/-
  DERIVED. GIVEN WITH THE SEED: THE CARDS: each row of YtgmkjjccnlnpoaaDoorRows.lean that lists a variable, with what it lists TIED to the program's text (the seventh form; the later family's looks); each row that meets fmt, with fmt's text TOLD by the authors' own Lean function (tested against real Go, not proved from fmt's source: count such statements apart). THE CARD IS WHAT COUNTS. Prove the row's statement (the work); the ties are given (YtgmkjjccnlnpoaaDoorTie.lean); close each card by the builder's one call (the guide's Derived/Test/ToyasCard.lean, 'card_holds'). Laid BY PROGRAM, IN A SANDBOX (cutbox-door.mjs). By AI agents, Wed Nov 11 2026. No macro, syntax, notation, axiom, sorry.
-/
import Derived.Test.YtgmkjjccnlnpoaaDoorRows
import GoSem.ClaimSeven
namespace Go.Proofs.YtgmkjjccnlnpoaaDoor
namespace Rows

/-- THE TIED CARD OF 'bowdlerlaw6.HeadingLabels'. -/
def headingLabelsCard : Claim7 := { stood := { row := headingLabelsRow, standIns := [], harness := (true, "370a8db978150bc5cac0dbafa6853e656ca4cbd12f13c4ea6360f97b6fa01c83"), looks := false }, kinds := [], alts := [], laidByText := true, laidKinds := [.data, .pinned], laidTests := true, laidLooks := .later }
def HeadingLabelsCardSaid : Prop := Claim7.holds Tryd.pinned (.plain (OpenSpec.ofChange headingLabelsSpec)) headingLabelsCard

/-- THE TIED CARD OF 'bowdlerlaw6.SpansBack'. -/
def spansBackCard : Claim7 := { stood := { row := spansBackRow, standIns := [], harness := (true, "370a8db978150bc5cac0dbafa6853e656ca4cbd12f13c4ea6360f97b6fa01c83"), looks := false }, kinds := [], alts := [], laidByText := true, laidKinds := [.data, .pinned], laidTests := true, laidLooks := .later }
def SpansBackCardSaid : Prop := Claim7.holds Tryd.pinned (.plain (OpenSpec.ofChange spansBackSpec)) spansBackCard

/-- THE TIED CARD OF 'bowdlerlaw6.FrameBack'. -/
def frameBackCard : Claim7 := { stood := { row := frameBackRow, standIns := [], harness := (true, "370a8db978150bc5cac0dbafa6853e656ca4cbd12f13c4ea6360f97b6fa01c83"), looks := false }, kinds := [], alts := [], laidByText := true, laidKinds := [.data, .pinned], laidTests := true, laidLooks := .later }
def FrameBackCardSaid : Prop := Claim7.holds Tryd.pinned (.plain (OpenSpec.ofChange frameBackSpec)) frameBackCard

/-- THE TIED CARD OF 'bowdlerlaw6.FrameTurns'. -/
def frameTurnsCard : Claim7 := { stood := { row := frameTurnsRow, standIns := [], harness := (true, "370a8db978150bc5cac0dbafa6853e656ca4cbd12f13c4ea6360f97b6fa01c83"), looks := false }, kinds := [], alts := [], laidByText := true, laidKinds := [.data, .pinned], laidTests := true, laidLooks := .later }
def FrameTurnsCardSaid : Prop := Claim7.holds Tryd.pinned (.plain (OpenSpec.ofChange frameTurnsSpec)) frameTurnsCard

/-- THE SECOND FORM's CARD OF 'bowdlerlaw6.HeadingLabels'. -/
def headingLabelsUptoCard : Claim7 := { stood := { row := headingLabelsUptoRow, standIns := [], harness := (true, "370a8db978150bc5cac0dbafa6853e656ca4cbd12f13c4ea6360f97b6fa01c83"), looks := false }, kinds := [], alts := [], laidByText := true, laidKinds := [.data, .pinned], laidTests := true, laidLooks := .later }
def HeadingLabelsUptoCardSaid : Prop := Claim7.holds Tryd.pinned (.plain (OpenSpec.upto headingLabelsSpec)) headingLabelsUptoCard

/-- THE SECOND FORM's CARD OF 'bowdlerlaw6.SpansBack'. -/
def spansBackUptoCard : Claim7 := { stood := { row := spansBackUptoRow, standIns := [], harness := (true, "370a8db978150bc5cac0dbafa6853e656ca4cbd12f13c4ea6360f97b6fa01c83"), looks := false }, kinds := [], alts := [], laidByText := true, laidKinds := [.data, .pinned], laidTests := true, laidLooks := .later }
def SpansBackUptoCardSaid : Prop := Claim7.holds Tryd.pinned (.plain (OpenSpec.upto spansBackSpec)) spansBackUptoCard

/-- THE SECOND FORM's CARD OF 'bowdlerlaw6.FrameBack'. -/
def frameBackUptoCard : Claim7 := { stood := { row := frameBackUptoRow, standIns := [], harness := (true, "370a8db978150bc5cac0dbafa6853e656ca4cbd12f13c4ea6360f97b6fa01c83"), looks := false }, kinds := [], alts := [], laidByText := true, laidKinds := [.data, .pinned], laidTests := true, laidLooks := .later }
def FrameBackUptoCardSaid : Prop := Claim7.holds Tryd.pinned (.plain (OpenSpec.upto frameBackSpec)) frameBackUptoCard

/-- THE SECOND FORM's CARD OF 'bowdlerlaw6.FrameTurns'. -/
def frameTurnsUptoCard : Claim7 := { stood := { row := frameTurnsUptoRow, standIns := [], harness := (true, "370a8db978150bc5cac0dbafa6853e656ca4cbd12f13c4ea6360f97b6fa01c83"), looks := false }, kinds := [], alts := [], laidByText := true, laidKinds := [.data, .pinned], laidTests := true, laidLooks := .later }
def FrameTurnsUptoCardSaid : Prop := Claim7.holds Tryd.pinned (.plain (OpenSpec.upto frameTurnsSpec)) frameTurnsUptoCard
end Rows
end Go.Proofs.YtgmkjjccnlnpoaaDoor
