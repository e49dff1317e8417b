/-
  DERIVED. GIVEN WITH THE SEED: THE CARDS: each row of YtofloedgclodnaaDoorRows.lean that lists a variable, with what it lists TIED to the program's text (the seventh form; the later family's looks); each row that meets fmt, with fmt's text TOLD by the authors' own Lean function (tested against real Go, not proved from fmt's source: count such statements apart). THE CARD IS WHAT COUNTS. Prove the row's statement (the work); the ties are given (YtofloedgclodnaaDoorTie.lean); close each card by the builder's one call (the guide's Derived/Test/ToyasCard.lean, 'card_holds'). Laid BY PROGRAM, IN A SANDBOX (cutbox-door.mjs). By AI agents, Wed Nov 11 2026. No macro, syntax, notation, axiom, sorry.
-/
import Derived.Test.YtofloedgclodnaaDoorRows
import GoSem.ClaimSeven
namespace Go.Proofs.YtofloedgclodnaaDoor
namespace Rows

/-- THE TIED CARD OF 'bowdlerlaw4.PolicyLines'. -/
def policyLinesCard : Claim7 := { stood := { row := policyLinesRow, standIns := [], harness := (true, "2da21623f3f3eb200e9ddbae854db0dec13f0ce5cbec90ecd2ada9bd5c996fa5"), looks := false }, kinds := [], alts := [], laidByText := true, laidKinds := [.data, .pinned], laidTests := true, laidLooks := .later }
def PolicyLinesCardSaid : Prop := Claim7.holds Tryd.pinned (.plain (OpenSpec.ofChange policyLinesSpec)) policyLinesCard

/-- THE TIED CARD OF 'bowdlerlaw4.PolicyBad'. -/
def policyBadCard : Claim7 := { stood := { row := policyBadRow, standIns := [], harness := (true, "2da21623f3f3eb200e9ddbae854db0dec13f0ce5cbec90ecd2ada9bd5c996fa5"), looks := false }, kinds := [], alts := [], laidByText := true, laidKinds := [.data, .pinned], laidTests := true, laidLooks := .later }
def PolicyBadCardSaid : Prop := Claim7.holds Tryd.pinned (.plain (OpenSpec.ofChange policyBadSpec)) policyBadCard

/-- THE TIED CARD OF 'bowdlerlaw4.PolicyMany'. -/
def policyManyCard : Claim7 := { stood := { row := policyManyRow, standIns := [], harness := (true, "2da21623f3f3eb200e9ddbae854db0dec13f0ce5cbec90ecd2ada9bd5c996fa5"), looks := false }, kinds := [], alts := [], laidByText := true, laidKinds := [.data, .pinned], laidTests := true, laidLooks := .later }
def PolicyManyCardSaid : Prop := Claim7.holds Tryd.pinned (.plain (OpenSpec.ofChange policyManySpec)) policyManyCard

/-- THE TIED CARD OF 'bowdlerlaw4.PolicyIndex'. -/
def policyIndexCard : Claim7 := { stood := { row := policyIndexRow, standIns := [], harness := (true, "2da21623f3f3eb200e9ddbae854db0dec13f0ce5cbec90ecd2ada9bd5c996fa5"), looks := false }, kinds := [], alts := [], laidByText := true, laidKinds := [.data, .pinned], laidTests := true, laidLooks := .later }
def PolicyIndexCardSaid : Prop := Claim7.holds Tryd.pinned (.plain (OpenSpec.ofChange policyIndexSpec)) policyIndexCard

/-- THE TIED CARD OF 'bowdlerlaw6.FrameNests'. -/
def frameNestsCard : Claim7 := { stood := { row := frameNestsRow, standIns := [], harness := (true, "2da21623f3f3eb200e9ddbae854db0dec13f0ce5cbec90ecd2ada9bd5c996fa5"), looks := false }, kinds := [], alts := [], laidByText := true, laidKinds := [.data, .pinned], laidTests := true, laidLooks := .later }
def FrameNestsCardSaid : Prop := Claim7.holds Tryd.pinned (.plain (OpenSpec.ofChange frameNestsSpec)) frameNestsCard

/-- THE TIED CARD OF 'bowdlerlaw6.FrameLoose'. -/
def frameLooseCard : Claim7 := { stood := { row := frameLooseRow, standIns := [], harness := (true, "2da21623f3f3eb200e9ddbae854db0dec13f0ce5cbec90ecd2ada9bd5c996fa5"), looks := false }, kinds := [], alts := [], laidByText := true, laidKinds := [.data, .pinned], laidTests := true, laidLooks := .later }
def FrameLooseCardSaid : Prop := Claim7.holds Tryd.pinned (.plain (OpenSpec.ofChange frameLooseSpec)) frameLooseCard

/-- THE TIED CARD OF 'bowdlerlaw6.SpansOne'. -/
def spansOneCard : Claim7 := { stood := { row := spansOneRow, standIns := [], harness := (true, "2da21623f3f3eb200e9ddbae854db0dec13f0ce5cbec90ecd2ada9bd5c996fa5"), looks := false }, kinds := [], alts := [], laidByText := true, laidKinds := [.data, .pinned], laidTests := true, laidLooks := .later }
def SpansOneCardSaid : Prop := Claim7.holds Tryd.pinned (.plain (OpenSpec.ofChange spansOneSpec)) spansOneCard

/-- THE TIED CARD OF 'bowdlerlaw6.FrameDepths'. -/
def frameDepthsCard : Claim7 := { stood := { row := frameDepthsRow, standIns := [], harness := (true, "2da21623f3f3eb200e9ddbae854db0dec13f0ce5cbec90ecd2ada9bd5c996fa5"), looks := false }, kinds := [], alts := [], laidByText := true, laidKinds := [.data, .pinned], laidTests := true, laidLooks := .later }
def FrameDepthsCardSaid : Prop := Claim7.holds Tryd.pinned (.plain (OpenSpec.ofChange frameDepthsSpec)) frameDepthsCard

/-- THE TIED CARD OF 'bowdlerlaw6.HeadingLabels'. -/
def headingLabelsCard : Claim7 := { stood := { row := headingLabelsRow, standIns := [], harness := (true, "2da21623f3f3eb200e9ddbae854db0dec13f0ce5cbec90ecd2ada9bd5c996fa5"), looks := false }, kinds := [], alts := [], laidByText := true, laidKinds := [.data, .pinned], laidTests := true, laidLooks := .later }
def HeadingLabelsCardSaid : Prop := Claim7.holds Tryd.pinned (.plain (OpenSpec.ofChange headingLabelsSpec)) headingLabelsCard

/-- THE TIED CARD OF 'bowdlerlaw6.SpansBack'. -/
def spansBackCard : Claim7 := { stood := { row := spansBackRow, standIns := [], harness := (true, "2da21623f3f3eb200e9ddbae854db0dec13f0ce5cbec90ecd2ada9bd5c996fa5"), looks := false }, kinds := [], alts := [], laidByText := true, laidKinds := [.data, .pinned], laidTests := true, laidLooks := .later }
def SpansBackCardSaid : Prop := Claim7.holds Tryd.pinned (.plain (OpenSpec.ofChange spansBackSpec)) spansBackCard

/-- THE TIED CARD OF 'bowdlerlaw6.FrameBack'. -/
def frameBackCard : Claim7 := { stood := { row := frameBackRow, standIns := [], harness := (true, "2da21623f3f3eb200e9ddbae854db0dec13f0ce5cbec90ecd2ada9bd5c996fa5"), looks := false }, kinds := [], alts := [], laidByText := true, laidKinds := [.data, .pinned], laidTests := true, laidLooks := .later }
def FrameBackCardSaid : Prop := Claim7.holds Tryd.pinned (.plain (OpenSpec.ofChange frameBackSpec)) frameBackCard

/-- THE TIED CARD OF 'bowdlerlaw6.FrameTurns'. -/
def frameTurnsCard : Claim7 := { stood := { row := frameTurnsRow, standIns := [], harness := (true, "2da21623f3f3eb200e9ddbae854db0dec13f0ce5cbec90ecd2ada9bd5c996fa5"), looks := false }, kinds := [], alts := [], laidByText := true, laidKinds := [.data, .pinned], laidTests := true, laidLooks := .later }
def FrameTurnsCardSaid : Prop := Claim7.holds Tryd.pinned (.plain (OpenSpec.ofChange frameTurnsSpec)) frameTurnsCard

/-- THE SECOND FORM's CARD OF 'bowdlerlaw4.PolicyLines'. -/
def policyLinesUptoCard : Claim7 := { stood := { row := policyLinesUptoRow, standIns := [], harness := (true, "2da21623f3f3eb200e9ddbae854db0dec13f0ce5cbec90ecd2ada9bd5c996fa5"), looks := false }, kinds := [], alts := [], laidByText := true, laidKinds := [.data, .pinned], laidTests := true, laidLooks := .later }
def PolicyLinesUptoCardSaid : Prop := Claim7.holds Tryd.pinned (.plain (OpenSpec.upto policyLinesSpec)) policyLinesUptoCard

/-- THE SECOND FORM's CARD OF 'bowdlerlaw4.PolicyBad'. -/
def policyBadUptoCard : Claim7 := { stood := { row := policyBadUptoRow, standIns := [], harness := (true, "2da21623f3f3eb200e9ddbae854db0dec13f0ce5cbec90ecd2ada9bd5c996fa5"), looks := false }, kinds := [], alts := [], laidByText := true, laidKinds := [.data, .pinned], laidTests := true, laidLooks := .later }
def PolicyBadUptoCardSaid : Prop := Claim7.holds Tryd.pinned (.plain (OpenSpec.upto policyBadSpec)) policyBadUptoCard

/-- THE SECOND FORM's CARD OF 'bowdlerlaw4.PolicyMany'. -/
def policyManyUptoCard : Claim7 := { stood := { row := policyManyUptoRow, standIns := [], harness := (true, "2da21623f3f3eb200e9ddbae854db0dec13f0ce5cbec90ecd2ada9bd5c996fa5"), looks := false }, kinds := [], alts := [], laidByText := true, laidKinds := [.data, .pinned], laidTests := true, laidLooks := .later }
def PolicyManyUptoCardSaid : Prop := Claim7.holds Tryd.pinned (.plain (OpenSpec.upto policyManySpec)) policyManyUptoCard

/-- THE SECOND FORM's CARD OF 'bowdlerlaw4.PolicyIndex'. -/
def policyIndexUptoCard : Claim7 := { stood := { row := policyIndexUptoRow, standIns := [], harness := (true, "2da21623f3f3eb200e9ddbae854db0dec13f0ce5cbec90ecd2ada9bd5c996fa5"), looks := false }, kinds := [], alts := [], laidByText := true, laidKinds := [.data, .pinned], laidTests := true, laidLooks := .later }
def PolicyIndexUptoCardSaid : Prop := Claim7.holds Tryd.pinned (.plain (OpenSpec.upto policyIndexSpec)) policyIndexUptoCard

/-- THE SECOND FORM's CARD OF 'bowdlerlaw6.FrameNests'. -/
def frameNestsUptoCard : Claim7 := { stood := { row := frameNestsUptoRow, standIns := [], harness := (true, "2da21623f3f3eb200e9ddbae854db0dec13f0ce5cbec90ecd2ada9bd5c996fa5"), looks := false }, kinds := [], alts := [], laidByText := true, laidKinds := [.data, .pinned], laidTests := true, laidLooks := .later }
def FrameNestsUptoCardSaid : Prop := Claim7.holds Tryd.pinned (.plain (OpenSpec.upto frameNestsSpec)) frameNestsUptoCard

/-- THE SECOND FORM's CARD OF 'bowdlerlaw6.FrameLoose'. -/
def frameLooseUptoCard : Claim7 := { stood := { row := frameLooseUptoRow, standIns := [], harness := (true, "2da21623f3f3eb200e9ddbae854db0dec13f0ce5cbec90ecd2ada9bd5c996fa5"), looks := false }, kinds := [], alts := [], laidByText := true, laidKinds := [.data, .pinned], laidTests := true, laidLooks := .later }
def FrameLooseUptoCardSaid : Prop := Claim7.holds Tryd.pinned (.plain (OpenSpec.upto frameLooseSpec)) frameLooseUptoCard

/-- THE SECOND FORM's CARD OF 'bowdlerlaw6.SpansOne'. -/
def spansOneUptoCard : Claim7 := { stood := { row := spansOneUptoRow, standIns := [], harness := (true, "2da21623f3f3eb200e9ddbae854db0dec13f0ce5cbec90ecd2ada9bd5c996fa5"), looks := false }, kinds := [], alts := [], laidByText := true, laidKinds := [.data, .pinned], laidTests := true, laidLooks := .later }
def SpansOneUptoCardSaid : Prop := Claim7.holds Tryd.pinned (.plain (OpenSpec.upto spansOneSpec)) spansOneUptoCard

/-- THE SECOND FORM's CARD OF 'bowdlerlaw6.FrameDepths'. -/
def frameDepthsUptoCard : Claim7 := { stood := { row := frameDepthsUptoRow, standIns := [], harness := (true, "2da21623f3f3eb200e9ddbae854db0dec13f0ce5cbec90ecd2ada9bd5c996fa5"), looks := false }, kinds := [], alts := [], laidByText := true, laidKinds := [.data, .pinned], laidTests := true, laidLooks := .later }
def FrameDepthsUptoCardSaid : Prop := Claim7.holds Tryd.pinned (.plain (OpenSpec.upto frameDepthsSpec)) frameDepthsUptoCard

/-- THE SECOND FORM's CARD OF 'bowdlerlaw6.HeadingLabels'. -/
def headingLabelsUptoCard : Claim7 := { stood := { row := headingLabelsUptoRow, standIns := [], harness := (true, "2da21623f3f3eb200e9ddbae854db0dec13f0ce5cbec90ecd2ada9bd5c996fa5"), looks := false }, kinds := [], alts := [], laidByText := true, laidKinds := [.data, .pinned], laidTests := true, laidLooks := .later }
def HeadingLabelsUptoCardSaid : Prop := Claim7.holds Tryd.pinned (.plain (OpenSpec.upto headingLabelsSpec)) headingLabelsUptoCard

/-- THE SECOND FORM's CARD OF 'bowdlerlaw6.SpansBack'. -/
def spansBackUptoCard : Claim7 := { stood := { row := spansBackUptoRow, standIns := [], harness := (true, "2da21623f3f3eb200e9ddbae854db0dec13f0ce5cbec90ecd2ada9bd5c996fa5"), looks := false }, kinds := [], alts := [], laidByText := true, laidKinds := [.data, .pinned], laidTests := true, laidLooks := .later }
def SpansBackUptoCardSaid : Prop := Claim7.holds Tryd.pinned (.plain (OpenSpec.upto spansBackSpec)) spansBackUptoCard

/-- THE SECOND FORM's CARD OF 'bowdlerlaw6.FrameBack'. -/
def frameBackUptoCard : Claim7 := { stood := { row := frameBackUptoRow, standIns := [], harness := (true, "2da21623f3f3eb200e9ddbae854db0dec13f0ce5cbec90ecd2ada9bd5c996fa5"), looks := false }, kinds := [], alts := [], laidByText := true, laidKinds := [.data, .pinned], laidTests := true, laidLooks := .later }
def FrameBackUptoCardSaid : Prop := Claim7.holds Tryd.pinned (.plain (OpenSpec.upto frameBackSpec)) frameBackUptoCard

/-- THE SECOND FORM's CARD OF 'bowdlerlaw6.FrameTurns'. -/
def frameTurnsUptoCard : Claim7 := { stood := { row := frameTurnsUptoRow, standIns := [], harness := (true, "2da21623f3f3eb200e9ddbae854db0dec13f0ce5cbec90ecd2ada9bd5c996fa5"), looks := false }, kinds := [], alts := [], laidByText := true, laidKinds := [.data, .pinned], laidTests := true, laidLooks := .later }
def FrameTurnsUptoCardSaid : Prop := Claim7.holds Tryd.pinned (.plain (OpenSpec.upto frameTurnsSpec)) frameTurnsUptoCard
end Rows
end Go.Proofs.YtofloedgclodnaaDoor
