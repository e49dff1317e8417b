/-
  DERIVED. GIVEN WITH THE SEED: THE CARDS: each row of YteeoohnkfdffnaaGreatDoorRows.lean that lists a variable, with what it lists TIED to the program's text (the seventh form; the later family's looks); each row that meets fmt, with fmt's text TOLD by the authors' own Lean function (tested against real Go, not proved from fmt's source: count such statements apart). THE CARD IS WHAT COUNTS. Prove the row's statement (the work); the ties are given (YteeoohnkfdffnaaGreatDoorTie.lean); close each card by the builder's one call (the guide's Derived/Test/ToyasCard.lean, 'card_holds'). Laid BY PROGRAM, IN A SANDBOX (cutbox-door.mjs). By AI agents, Wed Nov 11 2026. No macro, syntax, notation, axiom, sorry.
-/
import Derived.Test.YteeoohnkfdffnaaGreatDoorRows
import GoSem.ClaimSeven
namespace Go.Proofs.YteeoohnkfdffnaaGreatDoor
namespace Rows

/-- THE TIED CARD OF 'bowdlerlaw7.VeilTells'. -/
def veilTellsCard : Claim7 := { stood := { row := veilTellsRow, standIns := [], harness := (true, "b6bb0cd27f0ba2942fb097f887cb2ae9da668cd48ddb259425cb945b997d5cb4"), looks := false }, kinds := [], alts := [], laidByText := true, laidKinds := [.data, .pinned], laidTests := true, laidLooks := .later }
def VeilTellsCardSaid : Prop := Claim7.holds Tryz.pinned (.plain (OpenSpec.ofChange veilTellsSpec)) veilTellsCard

/-- THE TIED CARD OF 'bowdlerlaw7.VeilTwice'. -/
def veilTwiceCard : Claim7 := { stood := { row := veilTwiceRow, standIns := [], harness := (true, "b6bb0cd27f0ba2942fb097f887cb2ae9da668cd48ddb259425cb945b997d5cb4"), looks := false }, kinds := [], alts := [], laidByText := true, laidKinds := [.data, .pinned], laidTests := true, laidLooks := .later }
def VeilTwiceCardSaid : Prop := Claim7.holds Tryz.pinned (.plain (OpenSpec.ofChange veilTwiceSpec)) veilTwiceCard

/-- THE TIED CARD OF 'bowdlerlaw7.VeilSees'. -/
def veilSeesCard : Claim7 := { stood := { row := veilSeesRow, standIns := [], harness := (true, "b6bb0cd27f0ba2942fb097f887cb2ae9da668cd48ddb259425cb945b997d5cb4"), looks := false }, kinds := [], alts := [], laidByText := true, laidKinds := [.data, .pinned], laidTests := true, laidLooks := .later }
def VeilSeesCardSaid : Prop := Claim7.holds Tryz.pinned (.plain (OpenSpec.ofChange veilSeesSpec)) veilSeesCard

/-- THE TIED CARD OF 'bowdlerlaw7.VeilLines'. -/
def veilLinesCard : Claim7 := { stood := { row := veilLinesRow, standIns := [], harness := (true, "b6bb0cd27f0ba2942fb097f887cb2ae9da668cd48ddb259425cb945b997d5cb4"), looks := false }, kinds := [], alts := [], laidByText := true, laidKinds := [.data, .pinned], laidTests := true, laidLooks := .later }
def VeilLinesCardSaid : Prop := Claim7.holds Tryz.pinned (.plain (OpenSpec.ofChange veilLinesSpec)) veilLinesCard

/-- THE TIED CARD OF 'bowdlerlaw7.VeilLess'. -/
def veilLessCard : Claim7 := { stood := { row := veilLessRow, standIns := [], harness := (true, "b6bb0cd27f0ba2942fb097f887cb2ae9da668cd48ddb259425cb945b997d5cb4"), looks := false }, kinds := [], alts := [], laidByText := true, laidKinds := [.data, .pinned], laidTests := true, laidLooks := .later }
def VeilLessCardSaid : Prop := Claim7.holds Tryz.pinned (.plain (OpenSpec.ofChange veilLessSpec)) veilLessCard

/-- THE TIED CARD OF 'bowdlerlaw7.VeilUnknowns'. -/
def veilUnknownsCard : Claim7 := { stood := { row := veilUnknownsRow, standIns := [], harness := (true, "b6bb0cd27f0ba2942fb097f887cb2ae9da668cd48ddb259425cb945b997d5cb4"), looks := false }, kinds := [], alts := [], laidByText := true, laidKinds := [.data, .pinned], laidTests := true, laidLooks := .later }
def VeilUnknownsCardSaid : Prop := Claim7.holds Tryz.pinned (.plain (OpenSpec.ofChange veilUnknownsSpec)) veilUnknownsCard

/-- THE TIED CARD OF 'bowdlerlaw7.VeilDivs'. -/
def veilDivsCard : Claim7 := { stood := { row := veilDivsRow, standIns := [], harness := (true, "b6bb0cd27f0ba2942fb097f887cb2ae9da668cd48ddb259425cb945b997d5cb4"), looks := false }, kinds := [], alts := [], laidByText := true, laidKinds := [.data, .pinned], laidTests := true, laidLooks := .later }
def VeilDivsCardSaid : Prop := Claim7.holds Tryz.pinned (.plain (OpenSpec.ofChange veilDivsSpec)) veilDivsCard

/-- THE TIED CARD OF 'bowdlerlaw7.VeilEach'. -/
def veilEachCard : Claim7 := { stood := { row := veilEachRow, standIns := [], harness := (true, "b6bb0cd27f0ba2942fb097f887cb2ae9da668cd48ddb259425cb945b997d5cb4"), looks := false }, kinds := [], alts := [], laidByText := true, laidKinds := [.data, .pinned], laidTests := true, laidLooks := .later }
def VeilEachCardSaid : Prop := Claim7.holds Tryz.pinned (.plain (OpenSpec.ofChange veilEachSpec)) veilEachCard

/-- THE SECOND FORM's CARD OF 'bowdlerlaw7.VeilTells'. -/
def veilTellsUptoCard : Claim7 := { stood := { row := veilTellsUptoRow, standIns := [], harness := (true, "b6bb0cd27f0ba2942fb097f887cb2ae9da668cd48ddb259425cb945b997d5cb4"), looks := false }, kinds := [], alts := [], laidByText := true, laidKinds := [.data, .pinned], laidTests := true, laidLooks := .later }
def VeilTellsUptoCardSaid : Prop := Claim7.holds Tryz.pinned (.plain (OpenSpec.upto veilTellsSpec)) veilTellsUptoCard

/-- THE SECOND FORM's CARD OF 'bowdlerlaw7.VeilTwice'. -/
def veilTwiceUptoCard : Claim7 := { stood := { row := veilTwiceUptoRow, standIns := [], harness := (true, "b6bb0cd27f0ba2942fb097f887cb2ae9da668cd48ddb259425cb945b997d5cb4"), looks := false }, kinds := [], alts := [], laidByText := true, laidKinds := [.data, .pinned], laidTests := true, laidLooks := .later }
def VeilTwiceUptoCardSaid : Prop := Claim7.holds Tryz.pinned (.plain (OpenSpec.upto veilTwiceSpec)) veilTwiceUptoCard

/-- THE SECOND FORM's CARD OF 'bowdlerlaw7.VeilSees'. -/
def veilSeesUptoCard : Claim7 := { stood := { row := veilSeesUptoRow, standIns := [], harness := (true, "b6bb0cd27f0ba2942fb097f887cb2ae9da668cd48ddb259425cb945b997d5cb4"), looks := false }, kinds := [], alts := [], laidByText := true, laidKinds := [.data, .pinned], laidTests := true, laidLooks := .later }
def VeilSeesUptoCardSaid : Prop := Claim7.holds Tryz.pinned (.plain (OpenSpec.upto veilSeesSpec)) veilSeesUptoCard

/-- THE SECOND FORM's CARD OF 'bowdlerlaw7.VeilLines'. -/
def veilLinesUptoCard : Claim7 := { stood := { row := veilLinesUptoRow, standIns := [], harness := (true, "b6bb0cd27f0ba2942fb097f887cb2ae9da668cd48ddb259425cb945b997d5cb4"), looks := false }, kinds := [], alts := [], laidByText := true, laidKinds := [.data, .pinned], laidTests := true, laidLooks := .later }
def VeilLinesUptoCardSaid : Prop := Claim7.holds Tryz.pinned (.plain (OpenSpec.upto veilLinesSpec)) veilLinesUptoCard

/-- THE SECOND FORM's CARD OF 'bowdlerlaw7.VeilLess'. -/
def veilLessUptoCard : Claim7 := { stood := { row := veilLessUptoRow, standIns := [], harness := (true, "b6bb0cd27f0ba2942fb097f887cb2ae9da668cd48ddb259425cb945b997d5cb4"), looks := false }, kinds := [], alts := [], laidByText := true, laidKinds := [.data, .pinned], laidTests := true, laidLooks := .later }
def VeilLessUptoCardSaid : Prop := Claim7.holds Tryz.pinned (.plain (OpenSpec.upto veilLessSpec)) veilLessUptoCard

/-- THE SECOND FORM's CARD OF 'bowdlerlaw7.VeilUnknowns'. -/
def veilUnknownsUptoCard : Claim7 := { stood := { row := veilUnknownsUptoRow, standIns := [], harness := (true, "b6bb0cd27f0ba2942fb097f887cb2ae9da668cd48ddb259425cb945b997d5cb4"), looks := false }, kinds := [], alts := [], laidByText := true, laidKinds := [.data, .pinned], laidTests := true, laidLooks := .later }
def VeilUnknownsUptoCardSaid : Prop := Claim7.holds Tryz.pinned (.plain (OpenSpec.upto veilUnknownsSpec)) veilUnknownsUptoCard

/-- THE SECOND FORM's CARD OF 'bowdlerlaw7.VeilDivs'. -/
def veilDivsUptoCard : Claim7 := { stood := { row := veilDivsUptoRow, standIns := [], harness := (true, "b6bb0cd27f0ba2942fb097f887cb2ae9da668cd48ddb259425cb945b997d5cb4"), looks := false }, kinds := [], alts := [], laidByText := true, laidKinds := [.data, .pinned], laidTests := true, laidLooks := .later }
def VeilDivsUptoCardSaid : Prop := Claim7.holds Tryz.pinned (.plain (OpenSpec.upto veilDivsSpec)) veilDivsUptoCard

/-- THE SECOND FORM's CARD OF 'bowdlerlaw7.VeilEach'. -/
def veilEachUptoCard : Claim7 := { stood := { row := veilEachUptoRow, standIns := [], harness := (true, "b6bb0cd27f0ba2942fb097f887cb2ae9da668cd48ddb259425cb945b997d5cb4"), looks := false }, kinds := [], alts := [], laidByText := true, laidKinds := [.data, .pinned], laidTests := true, laidLooks := .later }
def VeilEachUptoCardSaid : Prop := Claim7.holds Tryz.pinned (.plain (OpenSpec.upto veilEachSpec)) veilEachUptoCard
end Rows
end Go.Proofs.YteeoohnkfdffnaaGreatDoor
