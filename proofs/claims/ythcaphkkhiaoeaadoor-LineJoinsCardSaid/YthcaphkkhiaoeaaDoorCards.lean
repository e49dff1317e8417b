/-
  DERIVED. GIVEN WITH THE SEED: THE CARDS: each row of YthcaphkkhiaoeaaDoorRows.lean that lists a variable, with what it lists TIED to the program's text (the seventh form; the later family's looks); each row that meets fmt, with fmt's text TOLD by the authors' own Lean function (tested against real Go, not proved from fmt's source: count such statements apart). THE CARD IS WHAT COUNTS. Prove the row's statement (the work); the ties are given (YthcaphkkhiaoeaaDoorTie.lean); close each card by the builder's one call (the guide's Derived/Test/ToyasCard.lean, 'card_holds'). Laid BY PROGRAM, IN A SANDBOX (cutbox-door.mjs). By AI agents, Wed Nov 11 2026. No macro, syntax, notation, axiom, sorry.
-/
import Derived.Test.YthcaphkkhiaoeaaDoorRows
import GoSem.ClaimSeven
namespace Go.Proofs.YthcaphkkhiaoeaaDoor
namespace Rows

/-- THE TIED CARD OF 'bowdlerlaw2.LineBack'. -/
def lineBackCard : Claim7 := { stood := { row := lineBackRow, standIns := [], harness := (true, "4168aed0fffc3d7829c6cf82ee98c09b91e3d33cb7ac6cb660c769f1b7321eae"), looks := false }, kinds := [], alts := [], laidByText := true, laidKinds := [.data, .pinned], laidTests := true, laidLooks := .later }
def LineBackCardSaid : Prop := Claim7.holds Tryd.pinned (.plain (OpenSpec.ofChange lineBackSpec)) lineBackCard

/-- THE TIED CARD OF 'bowdlerlaw2.LineStrips'. -/
def lineStripsCard : Claim7 := { stood := { row := lineStripsRow, standIns := [], harness := (true, "4168aed0fffc3d7829c6cf82ee98c09b91e3d33cb7ac6cb660c769f1b7321eae"), looks := false }, kinds := [], alts := [], laidByText := true, laidKinds := [.data, .pinned], laidTests := true, laidLooks := .later }
def LineStripsCardSaid : Prop := Claim7.holds Tryd.pinned (.plain (OpenSpec.ofChange lineStripsSpec)) lineStripsCard

/-- THE TIED CARD OF 'bowdlerlaw2.LineCounts'. -/
def lineCountsCard : Claim7 := { stood := { row := lineCountsRow, standIns := [], harness := (true, "4168aed0fffc3d7829c6cf82ee98c09b91e3d33cb7ac6cb660c769f1b7321eae"), looks := false }, kinds := [], alts := [], laidByText := true, laidKinds := [.data, .pinned], laidTests := true, laidLooks := .later }
def LineCountsCardSaid : Prop := Claim7.holds Tryd.pinned (.plain (OpenSpec.ofChange lineCountsSpec)) lineCountsCard

/-- THE TIED CARD OF 'bowdlerlaw2.LineTabs'. -/
def lineTabsCard : Claim7 := { stood := { row := lineTabsRow, standIns := [], harness := (true, "4168aed0fffc3d7829c6cf82ee98c09b91e3d33cb7ac6cb660c769f1b7321eae"), looks := false }, kinds := [], alts := [], laidByText := true, laidKinds := [.data, .pinned], laidTests := true, laidLooks := .later }
def LineTabsCardSaid : Prop := Claim7.holds Tryd.pinned (.plain (OpenSpec.ofChange lineTabsSpec)) lineTabsCard

/-- THE TIED CARD OF 'bowdlerlaw2.LineJoins'. -/
def lineJoinsCard : Claim7 := { stood := { row := lineJoinsRow, standIns := [], harness := (true, "4168aed0fffc3d7829c6cf82ee98c09b91e3d33cb7ac6cb660c769f1b7321eae"), looks := false }, kinds := [], alts := [], laidByText := true, laidKinds := [.data, .pinned], laidTests := true, laidLooks := .later }
def LineJoinsCardSaid : Prop := Claim7.holds Tryd.pinned (.plain (OpenSpec.ofChange lineJoinsSpec)) lineJoinsCard

/-- THE TIED CARD OF 'bowdlerlaw4.PolicyLines'. -/
def policyLinesCard : Claim7 := { stood := { row := policyLinesRow, standIns := [], harness := (true, "4168aed0fffc3d7829c6cf82ee98c09b91e3d33cb7ac6cb660c769f1b7321eae"), looks := false }, kinds := [], alts := [], laidByText := true, laidKinds := [.data, .pinned], laidTests := true, laidLooks := .later }
def PolicyLinesCardSaid : Prop := Claim7.holds Tryd.pinned (.plain (OpenSpec.ofChange policyLinesSpec)) policyLinesCard

/-- THE TIED CARD OF 'bowdlerlaw4.PolicyBad'. -/
def policyBadCard : Claim7 := { stood := { row := policyBadRow, standIns := [], harness := (true, "4168aed0fffc3d7829c6cf82ee98c09b91e3d33cb7ac6cb660c769f1b7321eae"), looks := false }, kinds := [], alts := [], laidByText := true, laidKinds := [.data, .pinned], laidTests := true, laidLooks := .later }
def PolicyBadCardSaid : Prop := Claim7.holds Tryd.pinned (.plain (OpenSpec.ofChange policyBadSpec)) policyBadCard

/-- THE TIED CARD OF 'bowdlerlaw4.PolicyMany'. -/
def policyManyCard : Claim7 := { stood := { row := policyManyRow, standIns := [], harness := (true, "4168aed0fffc3d7829c6cf82ee98c09b91e3d33cb7ac6cb660c769f1b7321eae"), looks := false }, kinds := [], alts := [], laidByText := true, laidKinds := [.data, .pinned], laidTests := true, laidLooks := .later }
def PolicyManyCardSaid : Prop := Claim7.holds Tryd.pinned (.plain (OpenSpec.ofChange policyManySpec)) policyManyCard

/-- THE TIED CARD OF 'bowdlerlaw4.PolicyIndex'. -/
def policyIndexCard : Claim7 := { stood := { row := policyIndexRow, standIns := [], harness := (true, "4168aed0fffc3d7829c6cf82ee98c09b91e3d33cb7ac6cb660c769f1b7321eae"), looks := false }, kinds := [], alts := [], laidByText := true, laidKinds := [.data, .pinned], laidTests := true, laidLooks := .later }
def PolicyIndexCardSaid : Prop := Claim7.holds Tryd.pinned (.plain (OpenSpec.ofChange policyIndexSpec)) policyIndexCard

/-- THE SECOND FORM's CARD OF 'bowdlerlaw2.LineBack'. -/
def lineBackUptoCard : Claim7 := { stood := { row := lineBackUptoRow, standIns := [], harness := (true, "4168aed0fffc3d7829c6cf82ee98c09b91e3d33cb7ac6cb660c769f1b7321eae"), looks := false }, kinds := [], alts := [], laidByText := true, laidKinds := [.data, .pinned], laidTests := true, laidLooks := .later }
def LineBackUptoCardSaid : Prop := Claim7.holds Tryd.pinned (.plain (OpenSpec.upto lineBackSpec)) lineBackUptoCard

/-- THE SECOND FORM's CARD OF 'bowdlerlaw2.LineStrips'. -/
def lineStripsUptoCard : Claim7 := { stood := { row := lineStripsUptoRow, standIns := [], harness := (true, "4168aed0fffc3d7829c6cf82ee98c09b91e3d33cb7ac6cb660c769f1b7321eae"), looks := false }, kinds := [], alts := [], laidByText := true, laidKinds := [.data, .pinned], laidTests := true, laidLooks := .later }
def LineStripsUptoCardSaid : Prop := Claim7.holds Tryd.pinned (.plain (OpenSpec.upto lineStripsSpec)) lineStripsUptoCard

/-- THE SECOND FORM's CARD OF 'bowdlerlaw2.LineCounts'. -/
def lineCountsUptoCard : Claim7 := { stood := { row := lineCountsUptoRow, standIns := [], harness := (true, "4168aed0fffc3d7829c6cf82ee98c09b91e3d33cb7ac6cb660c769f1b7321eae"), looks := false }, kinds := [], alts := [], laidByText := true, laidKinds := [.data, .pinned], laidTests := true, laidLooks := .later }
def LineCountsUptoCardSaid : Prop := Claim7.holds Tryd.pinned (.plain (OpenSpec.upto lineCountsSpec)) lineCountsUptoCard

/-- THE SECOND FORM's CARD OF 'bowdlerlaw2.LineTabs'. -/
def lineTabsUptoCard : Claim7 := { stood := { row := lineTabsUptoRow, standIns := [], harness := (true, "4168aed0fffc3d7829c6cf82ee98c09b91e3d33cb7ac6cb660c769f1b7321eae"), looks := false }, kinds := [], alts := [], laidByText := true, laidKinds := [.data, .pinned], laidTests := true, laidLooks := .later }
def LineTabsUptoCardSaid : Prop := Claim7.holds Tryd.pinned (.plain (OpenSpec.upto lineTabsSpec)) lineTabsUptoCard

/-- THE SECOND FORM's CARD OF 'bowdlerlaw2.LineJoins'. -/
def lineJoinsUptoCard : Claim7 := { stood := { row := lineJoinsUptoRow, standIns := [], harness := (true, "4168aed0fffc3d7829c6cf82ee98c09b91e3d33cb7ac6cb660c769f1b7321eae"), looks := false }, kinds := [], alts := [], laidByText := true, laidKinds := [.data, .pinned], laidTests := true, laidLooks := .later }
def LineJoinsUptoCardSaid : Prop := Claim7.holds Tryd.pinned (.plain (OpenSpec.upto lineJoinsSpec)) lineJoinsUptoCard

/-- THE SECOND FORM's CARD OF 'bowdlerlaw4.PolicyLines'. -/
def policyLinesUptoCard : Claim7 := { stood := { row := policyLinesUptoRow, standIns := [], harness := (true, "4168aed0fffc3d7829c6cf82ee98c09b91e3d33cb7ac6cb660c769f1b7321eae"), looks := false }, kinds := [], alts := [], laidByText := true, laidKinds := [.data, .pinned], laidTests := true, laidLooks := .later }
def PolicyLinesUptoCardSaid : Prop := Claim7.holds Tryd.pinned (.plain (OpenSpec.upto policyLinesSpec)) policyLinesUptoCard

/-- THE SECOND FORM's CARD OF 'bowdlerlaw4.PolicyBad'. -/
def policyBadUptoCard : Claim7 := { stood := { row := policyBadUptoRow, standIns := [], harness := (true, "4168aed0fffc3d7829c6cf82ee98c09b91e3d33cb7ac6cb660c769f1b7321eae"), looks := false }, kinds := [], alts := [], laidByText := true, laidKinds := [.data, .pinned], laidTests := true, laidLooks := .later }
def PolicyBadUptoCardSaid : Prop := Claim7.holds Tryd.pinned (.plain (OpenSpec.upto policyBadSpec)) policyBadUptoCard

/-- THE SECOND FORM's CARD OF 'bowdlerlaw4.PolicyMany'. -/
def policyManyUptoCard : Claim7 := { stood := { row := policyManyUptoRow, standIns := [], harness := (true, "4168aed0fffc3d7829c6cf82ee98c09b91e3d33cb7ac6cb660c769f1b7321eae"), looks := false }, kinds := [], alts := [], laidByText := true, laidKinds := [.data, .pinned], laidTests := true, laidLooks := .later }
def PolicyManyUptoCardSaid : Prop := Claim7.holds Tryd.pinned (.plain (OpenSpec.upto policyManySpec)) policyManyUptoCard

/-- THE SECOND FORM's CARD OF 'bowdlerlaw4.PolicyIndex'. -/
def policyIndexUptoCard : Claim7 := { stood := { row := policyIndexUptoRow, standIns := [], harness := (true, "4168aed0fffc3d7829c6cf82ee98c09b91e3d33cb7ac6cb660c769f1b7321eae"), looks := false }, kinds := [], alts := [], laidByText := true, laidKinds := [.data, .pinned], laidTests := true, laidLooks := .later }
def PolicyIndexUptoCardSaid : Prop := Claim7.holds Tryd.pinned (.plain (OpenSpec.upto policyIndexSpec)) policyIndexUptoCard
end Rows
end Go.Proofs.YthcaphkkhiaoeaaDoor
