/-
  DERIVED. GIVEN WITH THE SEED: THE CARDS: each row of YtommebalgghdjaaDoorRows.lean that lists a variable, with what it lists TIED to the program's text (the seventh form; the later family's looks); each row that meets fmt, with fmt's text TOLD by the authors' own Lean function (tested against real Go, not proved from fmt's source: count such statements apart). THE CARD IS WHAT COUNTS. Prove the row's statement (the work); the ties are given (YtommebalgghdjaaDoorTie.lean); close each card by the builder's one call (the guide's Derived/Test/ToyasCard.lean, 'card_holds'). Laid BY PROGRAM, IN A SANDBOX (cutbox-door.mjs). By AI agents, Wed Nov 11 2026. No macro, syntax, notation, axiom, sorry.
-/
import Derived.Test.YtommebalgghdjaaDoorRows
import GoSem.ClaimSeven
namespace Go.Proofs.YtommebalgghdjaaDoor
namespace Rows

/-- THE TIED CARD OF 'bowdlerlaw9.BlockRight'. -/
def blockRightCard : Claim7 := { stood := { row := blockRightRow, standIns := [], harness := (true, "e13c18fbce6b568f068925fa67185fd24999402fd944acb605de5db14f580401"), looks := false }, kinds := [], alts := [], laidByText := true, laidKinds := [.data, .pinned], laidTests := true, laidLooks := .later }
def BlockRightCardSaid : Prop := Claim7.holds Tryd.pinned (.plain (OpenSpec.ofChange blockRightSpec)) blockRightCard

/-- THE TIED CARD OF 'bowdlerlaw9.BlockQuotes'. -/
def blockQuotesCard : Claim7 := { stood := { row := blockQuotesRow, standIns := [], harness := (true, "e13c18fbce6b568f068925fa67185fd24999402fd944acb605de5db14f580401"), looks := false }, kinds := [], alts := [], laidByText := true, laidKinds := [.data, .pinned], laidTests := true, laidLooks := .later }
def BlockQuotesCardSaid : Prop := Claim7.holds Tryd.pinned (.plain (OpenSpec.ofChange blockQuotesSpec)) blockQuotesCard

/-- THE TIED CARD OF 'bowdlerlaw9.BlockBlanks'. -/
def blockBlanksCard : Claim7 := { stood := { row := blockBlanksRow, standIns := [], harness := (true, "e13c18fbce6b568f068925fa67185fd24999402fd944acb605de5db14f580401"), looks := false }, kinds := [], alts := [], laidByText := true, laidKinds := [.data, .pinned], laidTests := true, laidLooks := .later }
def BlockBlanksCardSaid : Prop := Claim7.holds Tryd.pinned (.plain (OpenSpec.ofChange blockBlanksSpec)) blockBlanksCard

/-- THE TIED CARD OF 'bowdlerlaw9.BlockCodes'. -/
def blockCodesCard : Claim7 := { stood := { row := blockCodesRow, standIns := [], harness := (true, "e13c18fbce6b568f068925fa67185fd24999402fd944acb605de5db14f580401"), looks := false }, kinds := [], alts := [], laidByText := true, laidKinds := [.data, .pinned], laidTests := true, laidLooks := .later }
def BlockCodesCardSaid : Prop := Claim7.holds Tryd.pinned (.plain (OpenSpec.ofChange blockCodesSpec)) blockCodesCard

/-- THE TIED CARD OF 'bowdlerlaw9.BlockParas'. -/
def blockParasCard : Claim7 := { stood := { row := blockParasRow, standIns := [], harness := (true, "e13c18fbce6b568f068925fa67185fd24999402fd944acb605de5db14f580401"), looks := false }, kinds := [], alts := [], laidByText := true, laidKinds := [.data, .pinned], laidTests := true, laidLooks := .later }
def BlockParasCardSaid : Prop := Claim7.holds Tryd.pinned (.plain (OpenSpec.ofChange blockParasSpec)) blockParasCard

/-- THE TIED CARD OF 'bowdlerlaw9.BlockLists'. -/
def blockListsCard : Claim7 := { stood := { row := blockListsRow, standIns := [], harness := (true, "e13c18fbce6b568f068925fa67185fd24999402fd944acb605de5db14f580401"), looks := false }, kinds := [], alts := [], laidByText := true, laidKinds := [.data, .pinned], laidTests := true, laidLooks := .later }
def BlockListsCardSaid : Prop := Claim7.holds Tryd.pinned (.plain (OpenSpec.ofChange blockListsSpec)) blockListsCard

/-- THE TIED CARD OF 'bowdlerlaw9.BlockDeep'. -/
def blockDeepCard : Claim7 := { stood := { row := blockDeepRow, standIns := [], harness := (true, "e13c18fbce6b568f068925fa67185fd24999402fd944acb605de5db14f580401"), looks := false }, kinds := [], alts := [], laidByText := true, laidKinds := [.data, .pinned], laidTests := true, laidLooks := .later }
def BlockDeepCardSaid : Prop := Claim7.holds Tryd.pinned (.plain (OpenSpec.ofChange blockDeepSpec)) blockDeepCard

/-- THE TIED CARD OF 'bowdlerlaw9.BlockUnder'. -/
def blockUnderCard : Claim7 := { stood := { row := blockUnderRow, standIns := [], harness := (true, "e13c18fbce6b568f068925fa67185fd24999402fd944acb605de5db14f580401"), looks := false }, kinds := [], alts := [], laidByText := true, laidKinds := [.data, .pinned], laidTests := true, laidLooks := .later }
def BlockUnderCardSaid : Prop := Claim7.holds Tryd.pinned (.plain (OpenSpec.ofChange blockUnderSpec)) blockUnderCard

/-- THE TIED CARD OF 'bowdlerlaw9.BlockKinds'. -/
def blockKindsCard : Claim7 := { stood := { row := blockKindsRow, standIns := [], harness := (true, "e13c18fbce6b568f068925fa67185fd24999402fd944acb605de5db14f580401"), looks := false }, kinds := [], alts := [], laidByText := true, laidKinds := [.data, .pinned], laidTests := true, laidLooks := .later }
def BlockKindsCardSaid : Prop := Claim7.holds Tryd.pinned (.plain (OpenSpec.ofChange blockKindsSpec)) blockKindsCard

/-- THE TIED CARD OF 'bowdlerlaw9.BlockApart'. -/
def blockApartCard : Claim7 := { stood := { row := blockApartRow, standIns := [], harness := (true, "e13c18fbce6b568f068925fa67185fd24999402fd944acb605de5db14f580401"), looks := false }, kinds := [], alts := [], laidByText := true, laidKinds := [.data, .pinned], laidTests := true, laidLooks := .later }
def BlockApartCardSaid : Prop := Claim7.holds Tryd.pinned (.plain (OpenSpec.ofChange blockApartSpec)) blockApartCard

/-- THE TIED CARD OF 'bowdlerlaw9.BlockRaws'. -/
def blockRawsCard : Claim7 := { stood := { row := blockRawsRow, standIns := [], harness := (true, "e13c18fbce6b568f068925fa67185fd24999402fd944acb605de5db14f580401"), looks := false }, kinds := [], alts := [], laidByText := true, laidKinds := [.data, .pinned], laidTests := true, laidLooks := .later }
def BlockRawsCardSaid : Prop := Claim7.holds Tryd.pinned (.plain (OpenSpec.ofChange blockRawsSpec)) blockRawsCard

/-- THE TIED CARD OF 'bowdlerlaw9.BlockIndents'. -/
def blockIndentsCard : Claim7 := { stood := { row := blockIndentsRow, standIns := [], harness := (true, "e13c18fbce6b568f068925fa67185fd24999402fd944acb605de5db14f580401"), looks := false }, kinds := [], alts := [], laidByText := true, laidKinds := [.data, .pinned], laidTests := true, laidLooks := .later }
def BlockIndentsCardSaid : Prop := Claim7.holds Tryd.pinned (.plain (OpenSpec.ofChange blockIndentsSpec)) blockIndentsCard

/-- THE SECOND FORM's CARD OF 'bowdlerlaw9.BlockRight'. -/
def blockRightUptoCard : Claim7 := { stood := { row := blockRightUptoRow, standIns := [], harness := (true, "e13c18fbce6b568f068925fa67185fd24999402fd944acb605de5db14f580401"), looks := false }, kinds := [], alts := [], laidByText := true, laidKinds := [.data, .pinned], laidTests := true, laidLooks := .later }
def BlockRightUptoCardSaid : Prop := Claim7.holds Tryd.pinned (.plain (OpenSpec.upto blockRightSpec)) blockRightUptoCard

/-- THE SECOND FORM's CARD OF 'bowdlerlaw9.BlockQuotes'. -/
def blockQuotesUptoCard : Claim7 := { stood := { row := blockQuotesUptoRow, standIns := [], harness := (true, "e13c18fbce6b568f068925fa67185fd24999402fd944acb605de5db14f580401"), looks := false }, kinds := [], alts := [], laidByText := true, laidKinds := [.data, .pinned], laidTests := true, laidLooks := .later }
def BlockQuotesUptoCardSaid : Prop := Claim7.holds Tryd.pinned (.plain (OpenSpec.upto blockQuotesSpec)) blockQuotesUptoCard

/-- THE SECOND FORM's CARD OF 'bowdlerlaw9.BlockBlanks'. -/
def blockBlanksUptoCard : Claim7 := { stood := { row := blockBlanksUptoRow, standIns := [], harness := (true, "e13c18fbce6b568f068925fa67185fd24999402fd944acb605de5db14f580401"), looks := false }, kinds := [], alts := [], laidByText := true, laidKinds := [.data, .pinned], laidTests := true, laidLooks := .later }
def BlockBlanksUptoCardSaid : Prop := Claim7.holds Tryd.pinned (.plain (OpenSpec.upto blockBlanksSpec)) blockBlanksUptoCard

/-- THE SECOND FORM's CARD OF 'bowdlerlaw9.BlockCodes'. -/
def blockCodesUptoCard : Claim7 := { stood := { row := blockCodesUptoRow, standIns := [], harness := (true, "e13c18fbce6b568f068925fa67185fd24999402fd944acb605de5db14f580401"), looks := false }, kinds := [], alts := [], laidByText := true, laidKinds := [.data, .pinned], laidTests := true, laidLooks := .later }
def BlockCodesUptoCardSaid : Prop := Claim7.holds Tryd.pinned (.plain (OpenSpec.upto blockCodesSpec)) blockCodesUptoCard

/-- THE SECOND FORM's CARD OF 'bowdlerlaw9.BlockParas'. -/
def blockParasUptoCard : Claim7 := { stood := { row := blockParasUptoRow, standIns := [], harness := (true, "e13c18fbce6b568f068925fa67185fd24999402fd944acb605de5db14f580401"), looks := false }, kinds := [], alts := [], laidByText := true, laidKinds := [.data, .pinned], laidTests := true, laidLooks := .later }
def BlockParasUptoCardSaid : Prop := Claim7.holds Tryd.pinned (.plain (OpenSpec.upto blockParasSpec)) blockParasUptoCard

/-- THE SECOND FORM's CARD OF 'bowdlerlaw9.BlockLists'. -/
def blockListsUptoCard : Claim7 := { stood := { row := blockListsUptoRow, standIns := [], harness := (true, "e13c18fbce6b568f068925fa67185fd24999402fd944acb605de5db14f580401"), looks := false }, kinds := [], alts := [], laidByText := true, laidKinds := [.data, .pinned], laidTests := true, laidLooks := .later }
def BlockListsUptoCardSaid : Prop := Claim7.holds Tryd.pinned (.plain (OpenSpec.upto blockListsSpec)) blockListsUptoCard

/-- THE SECOND FORM's CARD OF 'bowdlerlaw9.BlockDeep'. -/
def blockDeepUptoCard : Claim7 := { stood := { row := blockDeepUptoRow, standIns := [], harness := (true, "e13c18fbce6b568f068925fa67185fd24999402fd944acb605de5db14f580401"), looks := false }, kinds := [], alts := [], laidByText := true, laidKinds := [.data, .pinned], laidTests := true, laidLooks := .later }
def BlockDeepUptoCardSaid : Prop := Claim7.holds Tryd.pinned (.plain (OpenSpec.upto blockDeepSpec)) blockDeepUptoCard

/-- THE SECOND FORM's CARD OF 'bowdlerlaw9.BlockUnder'. -/
def blockUnderUptoCard : Claim7 := { stood := { row := blockUnderUptoRow, standIns := [], harness := (true, "e13c18fbce6b568f068925fa67185fd24999402fd944acb605de5db14f580401"), looks := false }, kinds := [], alts := [], laidByText := true, laidKinds := [.data, .pinned], laidTests := true, laidLooks := .later }
def BlockUnderUptoCardSaid : Prop := Claim7.holds Tryd.pinned (.plain (OpenSpec.upto blockUnderSpec)) blockUnderUptoCard

/-- THE SECOND FORM's CARD OF 'bowdlerlaw9.BlockKinds'. -/
def blockKindsUptoCard : Claim7 := { stood := { row := blockKindsUptoRow, standIns := [], harness := (true, "e13c18fbce6b568f068925fa67185fd24999402fd944acb605de5db14f580401"), looks := false }, kinds := [], alts := [], laidByText := true, laidKinds := [.data, .pinned], laidTests := true, laidLooks := .later }
def BlockKindsUptoCardSaid : Prop := Claim7.holds Tryd.pinned (.plain (OpenSpec.upto blockKindsSpec)) blockKindsUptoCard

/-- THE SECOND FORM's CARD OF 'bowdlerlaw9.BlockApart'. -/
def blockApartUptoCard : Claim7 := { stood := { row := blockApartUptoRow, standIns := [], harness := (true, "e13c18fbce6b568f068925fa67185fd24999402fd944acb605de5db14f580401"), looks := false }, kinds := [], alts := [], laidByText := true, laidKinds := [.data, .pinned], laidTests := true, laidLooks := .later }
def BlockApartUptoCardSaid : Prop := Claim7.holds Tryd.pinned (.plain (OpenSpec.upto blockApartSpec)) blockApartUptoCard

/-- THE SECOND FORM's CARD OF 'bowdlerlaw9.BlockRaws'. -/
def blockRawsUptoCard : Claim7 := { stood := { row := blockRawsUptoRow, standIns := [], harness := (true, "e13c18fbce6b568f068925fa67185fd24999402fd944acb605de5db14f580401"), looks := false }, kinds := [], alts := [], laidByText := true, laidKinds := [.data, .pinned], laidTests := true, laidLooks := .later }
def BlockRawsUptoCardSaid : Prop := Claim7.holds Tryd.pinned (.plain (OpenSpec.upto blockRawsSpec)) blockRawsUptoCard

/-- THE SECOND FORM's CARD OF 'bowdlerlaw9.BlockIndents'. -/
def blockIndentsUptoCard : Claim7 := { stood := { row := blockIndentsUptoRow, standIns := [], harness := (true, "e13c18fbce6b568f068925fa67185fd24999402fd944acb605de5db14f580401"), looks := false }, kinds := [], alts := [], laidByText := true, laidKinds := [.data, .pinned], laidTests := true, laidLooks := .later }
def BlockIndentsUptoCardSaid : Prop := Claim7.holds Tryd.pinned (.plain (OpenSpec.upto blockIndentsSpec)) blockIndentsUptoCard
end Rows
end Go.Proofs.YtommebalgghdjaaDoor
