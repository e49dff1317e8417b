/-
  NARROWER THAN 'FOR EVERY INPUT', by the rows' own cells (each row's printed sentence says how): MarkHeadings: laid · MarkRules: laid · MarkItems: laid · MarkUnders: laid · MarkQuotes: laid · MarkFences: laid · MarkFour: laid.
  DERIVED. THE GIVEN ROWS OF THIS SEAT. 7 by the template 'for every input the law returns true; each argument reads behind the call as it read before'; 0 by the template 'total and deterministic' (their statements: YtclhgbokhbfnbaaDoorTotals.lean).
  GIVEN WITH THE SEED: the statements are not yours to turn. If you find one false, say at which input.
  Laid BY PROGRAM, IN A SANDBOX (cutbox-rows.mjs): the forced cells as the released guide's own fill.sh prints them over the translation b1f0812745655345… (all of the seat's roots in one cut). By AI agents, Wed Nov 11 2026. No macro, syntax, notation, axiom, sorry.
-/
import Derived.Test.YtclhgbokhbfnbaaDoorChecked
import GoSem.PinnedTables
import GoSem.Claim
import GoSem.ClaimJoined
import GoSem.ClaimMapViews
import Derived.JoinedTies
import Derived.KernelRfl
namespace Go.Proofs.YtclhgbokhbfnbaaDoor
/- THE CELL 'sum', in the pinned program and in every row, IS THE sha256 OF THE DUMP (.gsa) THAT YtclhgbokhbfnbaaDoorProg.lean LOADS. Nothing in Lean hashes anything: it is a label: what it is worth is what the hold of that sum in a sandbox is worth. -/
noncomputable def Tryd.pinned : Pinned := { name := "ytclhgbokhbfnbaadoor", sum := "b1f081274565534556b18d446852096b92e73de3cc0fd6c62e9523a532a77054", checked := Tryd.checked }
namespace Rows
def none {H : Type} : Left H := { results := [], args := [] }

/- WHAT THE LISTED PACKAGE-LEVEL VARIABLES READ AS WHEN THE CALL BEGINS. Each datum BY PROGRAM (the guide's laid-datum.mjs) off the statement by which the dump's own 'gosem.cut.vars' lays the variable. In a bare row this is a premise. The card (YtclhgbokhbfnbaaDoorCards.lean) ties it to the program's text. -/
def laid_unicode_utf8_acceptRanges {H : Type} : DataW H := .agg [.agg [.lit (.int .u8 128), .lit (.int .u8 191)], .agg [.lit (.int .u8 160), .lit (.int .u8 191)], .agg [.lit (.int .u8 128), .lit (.int .u8 159)], .agg [.lit (.int .u8 144), .lit (.int .u8 191)], .agg [.lit (.int .u8 128), .lit (.int .u8 143)], .agg [.lit (.int .u8 0), .lit (.int .u8 0)], .agg [.lit (.int .u8 0), .lit (.int .u8 0)], .agg [.lit (.int .u8 0), .lit (.int .u8 0)], .agg [.lit (.int .u8 0), .lit (.int .u8 0)], .agg [.lit (.int .u8 0), .lit (.int .u8 0)], .agg [.lit (.int .u8 0), .lit (.int .u8 0)], .agg [.lit (.int .u8 0), .lit (.int .u8 0)], .agg [.lit (.int .u8 0), .lit (.int .u8 0)], .agg [.lit (.int .u8 0), .lit (.int .u8 0)], .agg [.lit (.int .u8 0), .lit (.int .u8 0)], .agg [.lit (.int .u8 0), .lit (.int .u8 0)]]
/-- One of Go's own tables, pinned by name: the form's constant. -/
def laid_unicode_utf8_first : DataW Unit := Go.Pinned.utf8First

/-- 'bowdlerlaw8.MarkHeadings': WHATEVER THE INPUT: true; the input reads as it did. -/
def markHeadingsSpec : ChangeSpec := { name := "markHeadings", fn := fun _ => fun
  | [d1, d2, d3, d4] => { results := [.lit (.bool true)], args := [d1, d2, d3, d4] }
  | _ => none }
def markHeadingsRow : OpenClaim := { program := "ytclhgbokhbfnbaadoor", sum := "b1f081274565534556b18d446852096b92e73de3cc0fd6c62e9523a532a77054", func := "bowdler/bowdlerlaw8.MarkHeadings", spec := "markHeadings", inPlace := ["internal/abi.NoEscape", "internal/bytealg.MakeNoZero", "internal/bytealg.IndexByteString", "internal/bytealg.IndexString", "internal/bytealg.CountString"], named := ["unicode/utf8.first", "unicode/utf8.acceptRanges", "internal/bytealg.MaxLen"], apart := false, laid := [("unicode/utf8.acceptRanges", laid_unicode_utf8_acceptRanges), ("unicode/utf8.first", laid_unicode_utf8_first)] }
def MarkHeadingsSaid : Prop := markHeadingsRow.holds Tryd.pinned (OpenSpec.ofChange markHeadingsSpec)

/-- ITS FALSE NEIGHBOUR: 'it returns false'. Refute it at one input. -/
def markHeadingsWrong : ChangeSpec := { name := "markHeadings", fn := fun _ => fun
  | [d1, d2, d3, d4] => { results := [.lit (.bool false)], args := [d1, d2, d3, d4] }
  | _ => none }
def MarkHeadingsWrongFalsely : Prop := markHeadingsRow.holds Tryd.pinned (OpenSpec.ofChange markHeadingsWrong)

/-- 'bowdlerlaw8.MarkRules': WHATEVER THE INPUT: true; the input reads as it did. -/
def markRulesSpec : ChangeSpec := { name := "markRules", fn := fun _ => fun
  | [d1, d2, d3, d4] => { results := [.lit (.bool true)], args := [d1, d2, d3, d4] }
  | _ => none }
def markRulesRow : OpenClaim := { program := "ytclhgbokhbfnbaadoor", sum := "b1f081274565534556b18d446852096b92e73de3cc0fd6c62e9523a532a77054", func := "bowdler/bowdlerlaw8.MarkRules", spec := "markRules", inPlace := ["internal/abi.NoEscape", "internal/bytealg.MakeNoZero", "internal/bytealg.IndexByteString", "internal/bytealg.IndexString", "internal/bytealg.CountString"], named := ["unicode/utf8.first", "unicode/utf8.acceptRanges", "internal/bytealg.MaxLen"], apart := false, laid := [("unicode/utf8.acceptRanges", laid_unicode_utf8_acceptRanges), ("unicode/utf8.first", laid_unicode_utf8_first)] }
def MarkRulesSaid : Prop := markRulesRow.holds Tryd.pinned (OpenSpec.ofChange markRulesSpec)

/-- ITS FALSE NEIGHBOUR: 'it returns false'. Refute it at one input. -/
def markRulesWrong : ChangeSpec := { name := "markRules", fn := fun _ => fun
  | [d1, d2, d3, d4] => { results := [.lit (.bool false)], args := [d1, d2, d3, d4] }
  | _ => none }
def MarkRulesWrongFalsely : Prop := markRulesRow.holds Tryd.pinned (OpenSpec.ofChange markRulesWrong)

/-- 'bowdlerlaw8.MarkItems': WHATEVER THE INPUT: true; the input reads as it did. -/
def markItemsSpec : ChangeSpec := { name := "markItems", fn := fun _ => fun
  | [d1, d2, d3, d4, d5] => { results := [.lit (.bool true)], args := [d1, d2, d3, d4, d5] }
  | _ => none }
def markItemsRow : OpenClaim := { program := "ytclhgbokhbfnbaadoor", sum := "b1f081274565534556b18d446852096b92e73de3cc0fd6c62e9523a532a77054", func := "bowdler/bowdlerlaw8.MarkItems", spec := "markItems", inPlace := ["internal/abi.NoEscape", "internal/bytealg.MakeNoZero", "internal/bytealg.IndexByteString", "internal/bytealg.IndexString", "internal/bytealg.CountString"], named := ["unicode/utf8.first", "unicode/utf8.acceptRanges", "internal/bytealg.MaxLen"], apart := false, laid := [("unicode/utf8.acceptRanges", laid_unicode_utf8_acceptRanges), ("unicode/utf8.first", laid_unicode_utf8_first)] }
def MarkItemsSaid : Prop := markItemsRow.holds Tryd.pinned (OpenSpec.ofChange markItemsSpec)

/-- ITS FALSE NEIGHBOUR: 'it returns false'. Refute it at one input. -/
def markItemsWrong : ChangeSpec := { name := "markItems", fn := fun _ => fun
  | [d1, d2, d3, d4, d5] => { results := [.lit (.bool false)], args := [d1, d2, d3, d4, d5] }
  | _ => none }
def MarkItemsWrongFalsely : Prop := markItemsRow.holds Tryd.pinned (OpenSpec.ofChange markItemsWrong)

/-- 'bowdlerlaw8.MarkUnders': WHATEVER THE INPUT: true; the input reads as it did. -/
def markUndersSpec : ChangeSpec := { name := "markUnders", fn := fun _ => fun
  | [d1, d2, d3, d4] => { results := [.lit (.bool true)], args := [d1, d2, d3, d4] }
  | _ => none }
def markUndersRow : OpenClaim := { program := "ytclhgbokhbfnbaadoor", sum := "b1f081274565534556b18d446852096b92e73de3cc0fd6c62e9523a532a77054", func := "bowdler/bowdlerlaw8.MarkUnders", spec := "markUnders", inPlace := ["internal/abi.NoEscape", "internal/bytealg.MakeNoZero", "internal/bytealg.IndexByteString", "internal/bytealg.IndexString", "internal/bytealg.CountString"], named := ["unicode/utf8.first", "unicode/utf8.acceptRanges", "internal/bytealg.MaxLen"], apart := false, laid := [("unicode/utf8.acceptRanges", laid_unicode_utf8_acceptRanges), ("unicode/utf8.first", laid_unicode_utf8_first)] }
def MarkUndersSaid : Prop := markUndersRow.holds Tryd.pinned (OpenSpec.ofChange markUndersSpec)

/-- ITS FALSE NEIGHBOUR: 'it returns false'. Refute it at one input. -/
def markUndersWrong : ChangeSpec := { name := "markUnders", fn := fun _ => fun
  | [d1, d2, d3, d4] => { results := [.lit (.bool false)], args := [d1, d2, d3, d4] }
  | _ => none }
def MarkUndersWrongFalsely : Prop := markUndersRow.holds Tryd.pinned (OpenSpec.ofChange markUndersWrong)

/-- 'bowdlerlaw8.MarkQuotes': WHATEVER THE INPUT: true; the input reads as it did. -/
def markQuotesSpec : ChangeSpec := { name := "markQuotes", fn := fun _ => fun
  | [d1, d2] => { results := [.lit (.bool true)], args := [d1, d2] }
  | _ => none }
def markQuotesRow : OpenClaim := { program := "ytclhgbokhbfnbaadoor", sum := "b1f081274565534556b18d446852096b92e73de3cc0fd6c62e9523a532a77054", func := "bowdler/bowdlerlaw8.MarkQuotes", spec := "markQuotes", inPlace := ["internal/abi.NoEscape", "internal/bytealg.MakeNoZero", "internal/bytealg.IndexByteString", "internal/bytealg.IndexString", "internal/bytealg.CountString"], named := ["unicode/utf8.first", "unicode/utf8.acceptRanges", "internal/bytealg.MaxLen"], apart := false, laid := [("unicode/utf8.acceptRanges", laid_unicode_utf8_acceptRanges), ("unicode/utf8.first", laid_unicode_utf8_first)] }
def MarkQuotesSaid : Prop := markQuotesRow.holds Tryd.pinned (OpenSpec.ofChange markQuotesSpec)

/-- ITS FALSE NEIGHBOUR: 'it returns false'. Refute it at one input. -/
def markQuotesWrong : ChangeSpec := { name := "markQuotes", fn := fun _ => fun
  | [d1, d2] => { results := [.lit (.bool false)], args := [d1, d2] }
  | _ => none }
def MarkQuotesWrongFalsely : Prop := markQuotesRow.holds Tryd.pinned (OpenSpec.ofChange markQuotesWrong)

/-- 'bowdlerlaw8.MarkFences': WHATEVER THE INPUT: true; the input reads as it did. -/
def markFencesSpec : ChangeSpec := { name := "markFences", fn := fun _ => fun
  | [d1, d2, d3, d4] => { results := [.lit (.bool true)], args := [d1, d2, d3, d4] }
  | _ => none }
def markFencesRow : OpenClaim := { program := "ytclhgbokhbfnbaadoor", sum := "b1f081274565534556b18d446852096b92e73de3cc0fd6c62e9523a532a77054", func := "bowdler/bowdlerlaw8.MarkFences", spec := "markFences", inPlace := ["internal/abi.NoEscape", "internal/bytealg.MakeNoZero", "internal/bytealg.IndexByteString", "internal/bytealg.IndexString", "internal/bytealg.CountString"], named := ["unicode/utf8.first", "unicode/utf8.acceptRanges", "internal/bytealg.MaxLen"], apart := false, laid := [("unicode/utf8.acceptRanges", laid_unicode_utf8_acceptRanges), ("unicode/utf8.first", laid_unicode_utf8_first)] }
def MarkFencesSaid : Prop := markFencesRow.holds Tryd.pinned (OpenSpec.ofChange markFencesSpec)

/-- ITS FALSE NEIGHBOUR: 'it returns false'. Refute it at one input. -/
def markFencesWrong : ChangeSpec := { name := "markFences", fn := fun _ => fun
  | [d1, d2, d3, d4] => { results := [.lit (.bool false)], args := [d1, d2, d3, d4] }
  | _ => none }
def MarkFencesWrongFalsely : Prop := markFencesRow.holds Tryd.pinned (OpenSpec.ofChange markFencesWrong)

/-- 'bowdlerlaw8.MarkFour': WHATEVER THE INPUT: true; the input reads as it did. -/
def markFourSpec : ChangeSpec := { name := "markFour", fn := fun _ => fun
  | [d1, d2] => { results := [.lit (.bool true)], args := [d1, d2] }
  | _ => none }
def markFourRow : OpenClaim := { program := "ytclhgbokhbfnbaadoor", sum := "b1f081274565534556b18d446852096b92e73de3cc0fd6c62e9523a532a77054", func := "bowdler/bowdlerlaw8.MarkFour", spec := "markFour", inPlace := ["internal/abi.NoEscape", "internal/bytealg.MakeNoZero", "internal/bytealg.IndexByteString", "internal/bytealg.IndexString", "internal/bytealg.CountString"], named := ["unicode/utf8.first", "unicode/utf8.acceptRanges", "internal/bytealg.MaxLen"], apart := false, laid := [("unicode/utf8.acceptRanges", laid_unicode_utf8_acceptRanges), ("unicode/utf8.first", laid_unicode_utf8_first)] }
def MarkFourSaid : Prop := markFourRow.holds Tryd.pinned (OpenSpec.ofChange markFourSpec)

/-- ITS FALSE NEIGHBOUR: 'it returns false'. Refute it at one input. -/
def markFourWrong : ChangeSpec := { name := "markFour", fn := fun _ => fun
  | [d1, d2] => { results := [.lit (.bool false)], args := [d1, d2] }
  | _ => none }
def MarkFourWrongFalsely : Prop := markFourRow.holds Tryd.pinned (OpenSpec.ofChange markFourWrong)

/- THE SECOND FORM. 'bulk': how many values and letters a reading holds, each counted each time it is reached (what is shared counts as often as it is met; a slice's spare places count too). A statement '..UptoSaid' is the law's where the arguments, and the package variables that the reading takes, are together of bulk at most 1048576: NARROWER than '..Said'. Prove '..Said' where nothing that the law and all that it calls make is longer than what came in: it says more and counts as full. Else prove '..UptoSaid'. A law counts once. -/
mutual
def uptoBulk {H : Type} : DataW H → Nat
  | .lit (.string bytes) => bytes.length + 1
  | .lit _ => 1
  | .nil => 1
  | .ptr d => uptoBulk d + 1
  | .slice elems spare => uptoBulkAll elems + uptoBulkAll spare + 1
  | .agg parts => uptoBulkAll parts + 1
  | .iface _ d => uptoBulk d + 1
  | .map entries => uptoBulkEntries entries + 1
  | .held _ => 1
def uptoBulkAll {H : Type} : List (DataW H) → Nat
  | [] => 0
  | d :: r => uptoBulk d + uptoBulkAll r
def uptoBulkEntries {H : Type} : List (Lit × DataW H) → Nat
  | [] => 0
  | x :: r => uptoBulkEntry x + uptoBulkEntries r
def uptoBulkEntry {H : Type} : Lit × DataW H → Nat
  | (.string bytes, d) => bytes.length + uptoBulk d + 1
  | (_, d) => uptoBulk d + 1
 end
def uptoSmall : (H : Type) → List (DataW H) → Bool := fun _ ds => decide (uptoBulkAll ds ≤ 1048576)
def OpenSpec.upto (s : _root_.Go.ChangeSpec) : _root_.Go.OpenSpec := { _root_.Go.OpenSpec.ofChange s with cond := some uptoSmall }

/-- 'bowdlerlaw8.MarkHeadings', WHERE WHAT IT READS IS OF BULK AT MOST 1048576: true; the input reads as it did. -/
def markHeadingsUptoRow : OpenClaim := { program := "ytclhgbokhbfnbaadoor", sum := "b1f081274565534556b18d446852096b92e73de3cc0fd6c62e9523a532a77054", func := "bowdler/bowdlerlaw8.MarkHeadings", spec := "markHeadings", inPlace := ["internal/abi.NoEscape", "internal/bytealg.MakeNoZero", "internal/bytealg.IndexByteString", "internal/bytealg.IndexString", "internal/bytealg.CountString"], named := ["unicode/utf8.first", "unicode/utf8.acceptRanges", "internal/bytealg.MaxLen"], apart := false, laid := [("unicode/utf8.acceptRanges", laid_unicode_utf8_acceptRanges), ("unicode/utf8.first", laid_unicode_utf8_first)], narrowed := true }
def MarkHeadingsUptoSaid : Prop := markHeadingsUptoRow.holds Tryd.pinned (OpenSpec.upto markHeadingsSpec)

/-- 'bowdlerlaw8.MarkRules', WHERE WHAT IT READS IS OF BULK AT MOST 1048576: true; the input reads as it did. -/
def markRulesUptoRow : OpenClaim := { program := "ytclhgbokhbfnbaadoor", sum := "b1f081274565534556b18d446852096b92e73de3cc0fd6c62e9523a532a77054", func := "bowdler/bowdlerlaw8.MarkRules", spec := "markRules", inPlace := ["internal/abi.NoEscape", "internal/bytealg.MakeNoZero", "internal/bytealg.IndexByteString", "internal/bytealg.IndexString", "internal/bytealg.CountString"], named := ["unicode/utf8.first", "unicode/utf8.acceptRanges", "internal/bytealg.MaxLen"], apart := false, laid := [("unicode/utf8.acceptRanges", laid_unicode_utf8_acceptRanges), ("unicode/utf8.first", laid_unicode_utf8_first)], narrowed := true }
def MarkRulesUptoSaid : Prop := markRulesUptoRow.holds Tryd.pinned (OpenSpec.upto markRulesSpec)

/-- 'bowdlerlaw8.MarkItems', WHERE WHAT IT READS IS OF BULK AT MOST 1048576: true; the input reads as it did. -/
def markItemsUptoRow : OpenClaim := { program := "ytclhgbokhbfnbaadoor", sum := "b1f081274565534556b18d446852096b92e73de3cc0fd6c62e9523a532a77054", func := "bowdler/bowdlerlaw8.MarkItems", spec := "markItems", inPlace := ["internal/abi.NoEscape", "internal/bytealg.MakeNoZero", "internal/bytealg.IndexByteString", "internal/bytealg.IndexString", "internal/bytealg.CountString"], named := ["unicode/utf8.first", "unicode/utf8.acceptRanges", "internal/bytealg.MaxLen"], apart := false, laid := [("unicode/utf8.acceptRanges", laid_unicode_utf8_acceptRanges), ("unicode/utf8.first", laid_unicode_utf8_first)], narrowed := true }
def MarkItemsUptoSaid : Prop := markItemsUptoRow.holds Tryd.pinned (OpenSpec.upto markItemsSpec)

/-- 'bowdlerlaw8.MarkUnders', WHERE WHAT IT READS IS OF BULK AT MOST 1048576: true; the input reads as it did. -/
def markUndersUptoRow : OpenClaim := { program := "ytclhgbokhbfnbaadoor", sum := "b1f081274565534556b18d446852096b92e73de3cc0fd6c62e9523a532a77054", func := "bowdler/bowdlerlaw8.MarkUnders", spec := "markUnders", inPlace := ["internal/abi.NoEscape", "internal/bytealg.MakeNoZero", "internal/bytealg.IndexByteString", "internal/bytealg.IndexString", "internal/bytealg.CountString"], named := ["unicode/utf8.first", "unicode/utf8.acceptRanges", "internal/bytealg.MaxLen"], apart := false, laid := [("unicode/utf8.acceptRanges", laid_unicode_utf8_acceptRanges), ("unicode/utf8.first", laid_unicode_utf8_first)], narrowed := true }
def MarkUndersUptoSaid : Prop := markUndersUptoRow.holds Tryd.pinned (OpenSpec.upto markUndersSpec)

/-- 'bowdlerlaw8.MarkQuotes', WHERE WHAT IT READS IS OF BULK AT MOST 1048576: true; the input reads as it did. -/
def markQuotesUptoRow : OpenClaim := { program := "ytclhgbokhbfnbaadoor", sum := "b1f081274565534556b18d446852096b92e73de3cc0fd6c62e9523a532a77054", func := "bowdler/bowdlerlaw8.MarkQuotes", spec := "markQuotes", inPlace := ["internal/abi.NoEscape", "internal/bytealg.MakeNoZero", "internal/bytealg.IndexByteString", "internal/bytealg.IndexString", "internal/bytealg.CountString"], named := ["unicode/utf8.first", "unicode/utf8.acceptRanges", "internal/bytealg.MaxLen"], apart := false, laid := [("unicode/utf8.acceptRanges", laid_unicode_utf8_acceptRanges), ("unicode/utf8.first", laid_unicode_utf8_first)], narrowed := true }
def MarkQuotesUptoSaid : Prop := markQuotesUptoRow.holds Tryd.pinned (OpenSpec.upto markQuotesSpec)

/-- 'bowdlerlaw8.MarkFences', WHERE WHAT IT READS IS OF BULK AT MOST 1048576: true; the input reads as it did. -/
def markFencesUptoRow : OpenClaim := { program := "ytclhgbokhbfnbaadoor", sum := "b1f081274565534556b18d446852096b92e73de3cc0fd6c62e9523a532a77054", func := "bowdler/bowdlerlaw8.MarkFences", spec := "markFences", inPlace := ["internal/abi.NoEscape", "internal/bytealg.MakeNoZero", "internal/bytealg.IndexByteString", "internal/bytealg.IndexString", "internal/bytealg.CountString"], named := ["unicode/utf8.first", "unicode/utf8.acceptRanges", "internal/bytealg.MaxLen"], apart := false, laid := [("unicode/utf8.acceptRanges", laid_unicode_utf8_acceptRanges), ("unicode/utf8.first", laid_unicode_utf8_first)], narrowed := true }
def MarkFencesUptoSaid : Prop := markFencesUptoRow.holds Tryd.pinned (OpenSpec.upto markFencesSpec)

/-- 'bowdlerlaw8.MarkFour', WHERE WHAT IT READS IS OF BULK AT MOST 1048576: true; the input reads as it did. -/
def markFourUptoRow : OpenClaim := { program := "ytclhgbokhbfnbaadoor", sum := "b1f081274565534556b18d446852096b92e73de3cc0fd6c62e9523a532a77054", func := "bowdler/bowdlerlaw8.MarkFour", spec := "markFour", inPlace := ["internal/abi.NoEscape", "internal/bytealg.MakeNoZero", "internal/bytealg.IndexByteString", "internal/bytealg.IndexString", "internal/bytealg.CountString"], named := ["unicode/utf8.first", "unicode/utf8.acceptRanges", "internal/bytealg.MaxLen"], apart := false, laid := [("unicode/utf8.acceptRanges", laid_unicode_utf8_acceptRanges), ("unicode/utf8.first", laid_unicode_utf8_first)], narrowed := true }
def MarkFourUptoSaid : Prop := markFourUptoRow.holds Tryd.pinned (OpenSpec.upto markFourSpec)

end Rows
end Go.Proofs.YtclhgbokhbfnbaaDoor
