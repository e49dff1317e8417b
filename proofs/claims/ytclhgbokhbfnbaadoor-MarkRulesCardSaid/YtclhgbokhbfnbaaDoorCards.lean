/-
  DERIVED. GIVEN WITH THE SEED: THE CARDS: each row of YtclhgbokhbfnbaaDoorRows.lean that lists a variable, with what it lists TIED to the program's text (the seventh form; the later family's looks); each row that meets fmt, with fmt's text TOLD by the authors' own Lean function (tested against real Go, not proved from fmt's source: count such statements apart). THE CARD IS WHAT COUNTS. Prove the row's statement (the work); the ties are given (YtclhgbokhbfnbaaDoorTie.lean); close each card by the builder's one call (the guide's Derived/Test/ToyasCard.lean, 'card_holds'). Laid BY PROGRAM, IN A SANDBOX (cutbox-door.mjs). By AI agents, Wed Nov 11 2026. No macro, syntax, notation, axiom, sorry.
-/
import Derived.Test.YtclhgbokhbfnbaaDoorRows
import GoSem.ClaimSeven
namespace Go.Proofs.YtclhgbokhbfnbaaDoor
namespace Rows

/-- THE TIED CARD OF 'bowdlerlaw8.MarkHeadings'. -/
def markHeadingsCard : Claim7 := { stood := { row := markHeadingsRow, standIns := [], harness := (true, "5b81556ee76d4cf36ce4bbf79a10b7cc679051e3fe94b5dd595e7276e75c4b1e"), looks := false }, kinds := [], alts := [], laidByText := true, laidKinds := [.data, .pinned], laidTests := true, laidLooks := .later }
def MarkHeadingsCardSaid : Prop := Claim7.holds Tryd.pinned (.plain (OpenSpec.ofChange markHeadingsSpec)) markHeadingsCard

/-- THE TIED CARD OF 'bowdlerlaw8.MarkRules'. -/
def markRulesCard : Claim7 := { stood := { row := markRulesRow, standIns := [], harness := (true, "5b81556ee76d4cf36ce4bbf79a10b7cc679051e3fe94b5dd595e7276e75c4b1e"), looks := false }, kinds := [], alts := [], laidByText := true, laidKinds := [.data, .pinned], laidTests := true, laidLooks := .later }
def MarkRulesCardSaid : Prop := Claim7.holds Tryd.pinned (.plain (OpenSpec.ofChange markRulesSpec)) markRulesCard

/-- THE TIED CARD OF 'bowdlerlaw8.MarkItems'. -/
def markItemsCard : Claim7 := { stood := { row := markItemsRow, standIns := [], harness := (true, "5b81556ee76d4cf36ce4bbf79a10b7cc679051e3fe94b5dd595e7276e75c4b1e"), looks := false }, kinds := [], alts := [], laidByText := true, laidKinds := [.data, .pinned], laidTests := true, laidLooks := .later }
def MarkItemsCardSaid : Prop := Claim7.holds Tryd.pinned (.plain (OpenSpec.ofChange markItemsSpec)) markItemsCard

/-- THE TIED CARD OF 'bowdlerlaw8.MarkUnders'. -/
def markUndersCard : Claim7 := { stood := { row := markUndersRow, standIns := [], harness := (true, "5b81556ee76d4cf36ce4bbf79a10b7cc679051e3fe94b5dd595e7276e75c4b1e"), looks := false }, kinds := [], alts := [], laidByText := true, laidKinds := [.data, .pinned], laidTests := true, laidLooks := .later }
def MarkUndersCardSaid : Prop := Claim7.holds Tryd.pinned (.plain (OpenSpec.ofChange markUndersSpec)) markUndersCard

/-- THE TIED CARD OF 'bowdlerlaw8.MarkQuotes'. -/
def markQuotesCard : Claim7 := { stood := { row := markQuotesRow, standIns := [], harness := (true, "5b81556ee76d4cf36ce4bbf79a10b7cc679051e3fe94b5dd595e7276e75c4b1e"), looks := false }, kinds := [], alts := [], laidByText := true, laidKinds := [.data, .pinned], laidTests := true, laidLooks := .later }
def MarkQuotesCardSaid : Prop := Claim7.holds Tryd.pinned (.plain (OpenSpec.ofChange markQuotesSpec)) markQuotesCard

/-- THE TIED CARD OF 'bowdlerlaw8.MarkFences'. -/
def markFencesCard : Claim7 := { stood := { row := markFencesRow, standIns := [], harness := (true, "5b81556ee76d4cf36ce4bbf79a10b7cc679051e3fe94b5dd595e7276e75c4b1e"), looks := false }, kinds := [], alts := [], laidByText := true, laidKinds := [.data, .pinned], laidTests := true, laidLooks := .later }
def MarkFencesCardSaid : Prop := Claim7.holds Tryd.pinned (.plain (OpenSpec.ofChange markFencesSpec)) markFencesCard

/-- THE TIED CARD OF 'bowdlerlaw8.MarkFour'. -/
def markFourCard : Claim7 := { stood := { row := markFourRow, standIns := [], harness := (true, "5b81556ee76d4cf36ce4bbf79a10b7cc679051e3fe94b5dd595e7276e75c4b1e"), looks := false }, kinds := [], alts := [], laidByText := true, laidKinds := [.data, .pinned], laidTests := true, laidLooks := .later }
def MarkFourCardSaid : Prop := Claim7.holds Tryd.pinned (.plain (OpenSpec.ofChange markFourSpec)) markFourCard

/-- THE SECOND FORM's CARD OF 'bowdlerlaw8.MarkHeadings'. -/
def markHeadingsUptoCard : Claim7 := { stood := { row := markHeadingsUptoRow, standIns := [], harness := (true, "5b81556ee76d4cf36ce4bbf79a10b7cc679051e3fe94b5dd595e7276e75c4b1e"), looks := false }, kinds := [], alts := [], laidByText := true, laidKinds := [.data, .pinned], laidTests := true, laidLooks := .later }
def MarkHeadingsUptoCardSaid : Prop := Claim7.holds Tryd.pinned (.plain (OpenSpec.upto markHeadingsSpec)) markHeadingsUptoCard

/-- THE SECOND FORM's CARD OF 'bowdlerlaw8.MarkRules'. -/
def markRulesUptoCard : Claim7 := { stood := { row := markRulesUptoRow, standIns := [], harness := (true, "5b81556ee76d4cf36ce4bbf79a10b7cc679051e3fe94b5dd595e7276e75c4b1e"), looks := false }, kinds := [], alts := [], laidByText := true, laidKinds := [.data, .pinned], laidTests := true, laidLooks := .later }
def MarkRulesUptoCardSaid : Prop := Claim7.holds Tryd.pinned (.plain (OpenSpec.upto markRulesSpec)) markRulesUptoCard

/-- THE SECOND FORM's CARD OF 'bowdlerlaw8.MarkItems'. -/
def markItemsUptoCard : Claim7 := { stood := { row := markItemsUptoRow, standIns := [], harness := (true, "5b81556ee76d4cf36ce4bbf79a10b7cc679051e3fe94b5dd595e7276e75c4b1e"), looks := false }, kinds := [], alts := [], laidByText := true, laidKinds := [.data, .pinned], laidTests := true, laidLooks := .later }
def MarkItemsUptoCardSaid : Prop := Claim7.holds Tryd.pinned (.plain (OpenSpec.upto markItemsSpec)) markItemsUptoCard

/-- THE SECOND FORM's CARD OF 'bowdlerlaw8.MarkUnders'. -/
def markUndersUptoCard : Claim7 := { stood := { row := markUndersUptoRow, standIns := [], harness := (true, "5b81556ee76d4cf36ce4bbf79a10b7cc679051e3fe94b5dd595e7276e75c4b1e"), looks := false }, kinds := [], alts := [], laidByText := true, laidKinds := [.data, .pinned], laidTests := true, laidLooks := .later }
def MarkUndersUptoCardSaid : Prop := Claim7.holds Tryd.pinned (.plain (OpenSpec.upto markUndersSpec)) markUndersUptoCard

/-- THE SECOND FORM's CARD OF 'bowdlerlaw8.MarkQuotes'. -/
def markQuotesUptoCard : Claim7 := { stood := { row := markQuotesUptoRow, standIns := [], harness := (true, "5b81556ee76d4cf36ce4bbf79a10b7cc679051e3fe94b5dd595e7276e75c4b1e"), looks := false }, kinds := [], alts := [], laidByText := true, laidKinds := [.data, .pinned], laidTests := true, laidLooks := .later }
def MarkQuotesUptoCardSaid : Prop := Claim7.holds Tryd.pinned (.plain (OpenSpec.upto markQuotesSpec)) markQuotesUptoCard

/-- THE SECOND FORM's CARD OF 'bowdlerlaw8.MarkFences'. -/
def markFencesUptoCard : Claim7 := { stood := { row := markFencesUptoRow, standIns := [], harness := (true, "5b81556ee76d4cf36ce4bbf79a10b7cc679051e3fe94b5dd595e7276e75c4b1e"), looks := false }, kinds := [], alts := [], laidByText := true, laidKinds := [.data, .pinned], laidTests := true, laidLooks := .later }
def MarkFencesUptoCardSaid : Prop := Claim7.holds Tryd.pinned (.plain (OpenSpec.upto markFencesSpec)) markFencesUptoCard

/-- THE SECOND FORM's CARD OF 'bowdlerlaw8.MarkFour'. -/
def markFourUptoCard : Claim7 := { stood := { row := markFourUptoRow, standIns := [], harness := (true, "5b81556ee76d4cf36ce4bbf79a10b7cc679051e3fe94b5dd595e7276e75c4b1e"), looks := false }, kinds := [], alts := [], laidByText := true, laidKinds := [.data, .pinned], laidTests := true, laidLooks := .later }
def MarkFourUptoCardSaid : Prop := Claim7.holds Tryd.pinned (.plain (OpenSpec.upto markFourSpec)) markFourUptoCard
end Rows
end Go.Proofs.YtclhgbokhbfnbaaDoor
