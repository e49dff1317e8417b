/-
  NARROWER THAN 'FOR EVERY INPUT', by the rows' own cells (each row's printed sentence says how): LineBack: laid · LineStrips: laid · LineCounts: laid · LineTabs: laid · LineJoins: laid · PolicyLines: laid · PolicyBad: laid · PolicyMany: laid · PolicyIndex: laid.
  DERIVED. THE GIVEN ROWS OF THIS SEAT. 9 by the template 'for every input the law returns true; each argument reads behind the call as it read before'; 0 by the template 'total and deterministic' (their statements: YthcaphkkhiaoeaaDoorTotals.lean).
  GIVEN WITH THE SEED: the statements are not yours to turn. If you find one false, say at which input.
  Laid BY PROGRAM, IN A SANDBOX (cutbox-rows.mjs): the forced cells as the released guide's own fill.sh prints them over the translation 0c1c6c5febb339ed… (all of the seat's roots in one cut). By AI agents, Wed Nov 11 2026. No macro, syntax, notation, axiom, sorry.
-/
import Derived.Test.YthcaphkkhiaoeaaDoorChecked
import GoSem.PinnedTables
import GoSem.Claim
import GoSem.ClaimJoined
import GoSem.ClaimMapViews
import Derived.JoinedTies
import Derived.KernelRfl
namespace Go.Proofs.YthcaphkkhiaoeaaDoor
/- THE CELL 'sum', in the pinned program and in every row, IS THE sha256 OF THE DUMP (.gsa) THAT YthcaphkkhiaoeaaDoorProg.lean LOADS. Nothing in Lean hashes anything: it is a label: what it is worth is what the hold of that sum in a sandbox is worth. -/
noncomputable def Tryd.pinned : Pinned := { name := "ythcaphkkhiaoeaadoor", sum := "0c1c6c5febb339ed698b2d780d75c3fcc732916b41b73ac80fedd4cd3428b9a4", checked := Tryd.checked }
namespace Rows
def none {H : Type} : Left H := { results := [], args := [] }

/- WHAT THE LISTED PACKAGE-LEVEL VARIABLES READ AS WHEN THE CALL BEGINS. Each datum BY PROGRAM (the guide's laid-datum.mjs) off the statement by which the dump's own 'gosem.cut.vars' lays the variable. In a bare row this is a premise. The card (YthcaphkkhiaoeaaDoorCards.lean) ties it to the program's text. -/
def laid_unicode_utf8_acceptRanges {H : Type} : DataW H := .agg [.agg [.lit (.int .u8 128), .lit (.int .u8 191)], .agg [.lit (.int .u8 160), .lit (.int .u8 191)], .agg [.lit (.int .u8 128), .lit (.int .u8 159)], .agg [.lit (.int .u8 144), .lit (.int .u8 191)], .agg [.lit (.int .u8 128), .lit (.int .u8 143)], .agg [.lit (.int .u8 0), .lit (.int .u8 0)], .agg [.lit (.int .u8 0), .lit (.int .u8 0)], .agg [.lit (.int .u8 0), .lit (.int .u8 0)], .agg [.lit (.int .u8 0), .lit (.int .u8 0)], .agg [.lit (.int .u8 0), .lit (.int .u8 0)], .agg [.lit (.int .u8 0), .lit (.int .u8 0)], .agg [.lit (.int .u8 0), .lit (.int .u8 0)], .agg [.lit (.int .u8 0), .lit (.int .u8 0)], .agg [.lit (.int .u8 0), .lit (.int .u8 0)], .agg [.lit (.int .u8 0), .lit (.int .u8 0)], .agg [.lit (.int .u8 0), .lit (.int .u8 0)]]
/-- One of Go's own tables, pinned by name: the form's constant. -/
def laid_unicode_utf8_first : DataW Unit := Go.Pinned.utf8First

/-- 'bowdlerlaw2.LineBack': WHATEVER THE INPUT: true; the input reads as it did. -/
def lineBackSpec : ChangeSpec := { name := "lineBack", fn := fun _ => fun
  | [d1, d2] => { results := [.lit (.bool true)], args := [d1, d2] }
  | _ => none }
def lineBackRow : OpenClaim := { program := "ythcaphkkhiaoeaadoor", sum := "0c1c6c5febb339ed698b2d780d75c3fcc732916b41b73ac80fedd4cd3428b9a4", func := "bowdler/bowdlerlaw2.LineBack", spec := "lineBack", inPlace := ["internal/bytealg.CountString", "internal/bytealg.IndexByteString", "internal/bytealg.IndexString", "internal/abi.NoEscape", "internal/bytealg.MakeNoZero"], named := ["unicode/utf8.first", "unicode/utf8.acceptRanges", "internal/bytealg.MaxLen"], apart := false, laid := [("unicode/utf8.acceptRanges", laid_unicode_utf8_acceptRanges), ("unicode/utf8.first", laid_unicode_utf8_first)] }
def LineBackSaid : Prop := lineBackRow.holds Tryd.pinned (OpenSpec.ofChange lineBackSpec)

/-- ITS FALSE NEIGHBOUR: 'it returns false'. Refute it at one input. -/
def lineBackWrong : ChangeSpec := { name := "lineBack", fn := fun _ => fun
  | [d1, d2] => { results := [.lit (.bool false)], args := [d1, d2] }
  | _ => none }
def LineBackWrongFalsely : Prop := lineBackRow.holds Tryd.pinned (OpenSpec.ofChange lineBackWrong)

/-- 'bowdlerlaw2.LineStrips': WHATEVER THE INPUT: true; the input reads as it did. -/
def lineStripsSpec : ChangeSpec := { name := "lineStrips", fn := fun _ => fun
  | [d1, d2, d3] => { results := [.lit (.bool true)], args := [d1, d2, d3] }
  | _ => none }
def lineStripsRow : OpenClaim := { program := "ythcaphkkhiaoeaadoor", sum := "0c1c6c5febb339ed698b2d780d75c3fcc732916b41b73ac80fedd4cd3428b9a4", func := "bowdler/bowdlerlaw2.LineStrips", spec := "lineStrips", inPlace := ["internal/bytealg.CountString", "internal/bytealg.IndexByteString", "internal/bytealg.IndexString", "internal/abi.NoEscape", "internal/bytealg.MakeNoZero"], named := ["unicode/utf8.first", "unicode/utf8.acceptRanges", "internal/bytealg.MaxLen"], apart := false, laid := [("unicode/utf8.acceptRanges", laid_unicode_utf8_acceptRanges), ("unicode/utf8.first", laid_unicode_utf8_first)] }
def LineStripsSaid : Prop := lineStripsRow.holds Tryd.pinned (OpenSpec.ofChange lineStripsSpec)

/-- ITS FALSE NEIGHBOUR: 'it returns false'. Refute it at one input. -/
def lineStripsWrong : ChangeSpec := { name := "lineStrips", fn := fun _ => fun
  | [d1, d2, d3] => { results := [.lit (.bool false)], args := [d1, d2, d3] }
  | _ => none }
def LineStripsWrongFalsely : Prop := lineStripsRow.holds Tryd.pinned (OpenSpec.ofChange lineStripsWrong)

/-- 'bowdlerlaw2.LineCounts': WHATEVER THE INPUT: true; the input reads as it did. -/
def lineCountsSpec : ChangeSpec := { name := "lineCounts", fn := fun _ => fun
  | [d] => { results := [.lit (.bool true)], args := [d] }
  | _ => none }
def lineCountsRow : OpenClaim := { program := "ythcaphkkhiaoeaadoor", sum := "0c1c6c5febb339ed698b2d780d75c3fcc732916b41b73ac80fedd4cd3428b9a4", func := "bowdler/bowdlerlaw2.LineCounts", spec := "lineCounts", inPlace := ["internal/bytealg.CountString", "internal/bytealg.IndexByteString", "internal/bytealg.IndexString", "internal/abi.NoEscape", "internal/bytealg.MakeNoZero"], named := ["unicode/utf8.first", "unicode/utf8.acceptRanges", "internal/bytealg.MaxLen"], apart := false, laid := [("unicode/utf8.acceptRanges", laid_unicode_utf8_acceptRanges), ("unicode/utf8.first", laid_unicode_utf8_first)] }
def LineCountsSaid : Prop := lineCountsRow.holds Tryd.pinned (OpenSpec.ofChange lineCountsSpec)

/-- ITS FALSE NEIGHBOUR: 'it returns false'. Refute it at one input. -/
def lineCountsWrong : ChangeSpec := { name := "lineCounts", fn := fun _ => fun
  | [d] => { results := [.lit (.bool false)], args := [d] }
  | _ => none }
def LineCountsWrongFalsely : Prop := lineCountsRow.holds Tryd.pinned (OpenSpec.ofChange lineCountsWrong)

/-- 'bowdlerlaw2.LineTabs': WHATEVER THE INPUT: true; the input reads as it did. -/
def lineTabsSpec : ChangeSpec := { name := "lineTabs", fn := fun _ => fun
  | [d1, d2] => { results := [.lit (.bool true)], args := [d1, d2] }
  | _ => none }
def lineTabsRow : OpenClaim := { program := "ythcaphkkhiaoeaadoor", sum := "0c1c6c5febb339ed698b2d780d75c3fcc732916b41b73ac80fedd4cd3428b9a4", func := "bowdler/bowdlerlaw2.LineTabs", spec := "lineTabs", inPlace := ["internal/bytealg.CountString", "internal/bytealg.IndexByteString", "internal/bytealg.IndexString", "internal/abi.NoEscape", "internal/bytealg.MakeNoZero"], named := ["unicode/utf8.first", "unicode/utf8.acceptRanges", "internal/bytealg.MaxLen"], apart := false, laid := [("unicode/utf8.acceptRanges", laid_unicode_utf8_acceptRanges), ("unicode/utf8.first", laid_unicode_utf8_first)] }
def LineTabsSaid : Prop := lineTabsRow.holds Tryd.pinned (OpenSpec.ofChange lineTabsSpec)

/-- ITS FALSE NEIGHBOUR: 'it returns false'. Refute it at one input. -/
def lineTabsWrong : ChangeSpec := { name := "lineTabs", fn := fun _ => fun
  | [d1, d2] => { results := [.lit (.bool false)], args := [d1, d2] }
  | _ => none }
def LineTabsWrongFalsely : Prop := lineTabsRow.holds Tryd.pinned (OpenSpec.ofChange lineTabsWrong)

/-- 'bowdlerlaw2.LineJoins': WHATEVER THE INPUT: true; the input reads as it did. -/
def lineJoinsSpec : ChangeSpec := { name := "lineJoins", fn := fun _ => fun
  | [d1, d2] => { results := [.lit (.bool true)], args := [d1, d2] }
  | _ => none }
def lineJoinsRow : OpenClaim := { program := "ythcaphkkhiaoeaadoor", sum := "0c1c6c5febb339ed698b2d780d75c3fcc732916b41b73ac80fedd4cd3428b9a4", func := "bowdler/bowdlerlaw2.LineJoins", spec := "lineJoins", inPlace := ["internal/bytealg.CountString", "internal/bytealg.IndexByteString", "internal/bytealg.IndexString", "internal/abi.NoEscape", "internal/bytealg.MakeNoZero"], named := ["unicode/utf8.first", "unicode/utf8.acceptRanges", "internal/bytealg.MaxLen"], apart := false, laid := [("unicode/utf8.acceptRanges", laid_unicode_utf8_acceptRanges), ("unicode/utf8.first", laid_unicode_utf8_first)] }
def LineJoinsSaid : Prop := lineJoinsRow.holds Tryd.pinned (OpenSpec.ofChange lineJoinsSpec)

/-- ITS FALSE NEIGHBOUR: 'it returns false'. Refute it at one input. -/
def lineJoinsWrong : ChangeSpec := { name := "lineJoins", fn := fun _ => fun
  | [d1, d2] => { results := [.lit (.bool false)], args := [d1, d2] }
  | _ => none }
def LineJoinsWrongFalsely : Prop := lineJoinsRow.holds Tryd.pinned (OpenSpec.ofChange lineJoinsWrong)

/-- 'bowdlerlaw4.PolicyLines': WHATEVER THE INPUT: true; the input reads as it did. -/
def policyLinesSpec : ChangeSpec := { name := "policyLines", fn := fun _ => fun
  | [d1, d2, d3, d4] => { results := [.lit (.bool true)], args := [d1, d2, d3, d4] }
  | _ => none }
def policyLinesRow : OpenClaim := { program := "ythcaphkkhiaoeaadoor", sum := "0c1c6c5febb339ed698b2d780d75c3fcc732916b41b73ac80fedd4cd3428b9a4", func := "bowdler/bowdlerlaw4.PolicyLines", spec := "policyLines", inPlace := ["internal/abi.NoEscape", "internal/bytealg.CountString", "internal/bytealg.IndexByteString", "internal/bytealg.IndexString"], unfollowed := true, recurses := true, named := ["unicode/utf8.first", "unicode/utf8.acceptRanges", "internal/bytealg.MaxLen"], apart := false, laid := [("unicode/utf8.acceptRanges", laid_unicode_utf8_acceptRanges), ("unicode/utf8.first", laid_unicode_utf8_first)] }
def PolicyLinesSaid : Prop := policyLinesRow.holds Tryd.pinned (OpenSpec.ofChange policyLinesSpec)

/-- ITS FALSE NEIGHBOUR: 'it returns false'. Refute it at one input. -/
def policyLinesWrong : ChangeSpec := { name := "policyLines", fn := fun _ => fun
  | [d1, d2, d3, d4] => { results := [.lit (.bool false)], args := [d1, d2, d3, d4] }
  | _ => none }
def PolicyLinesWrongFalsely : Prop := policyLinesRow.holds Tryd.pinned (OpenSpec.ofChange policyLinesWrong)

/-- 'bowdlerlaw4.PolicyBad': WHATEVER THE INPUT: true; the input reads as it did. -/
def policyBadSpec : ChangeSpec := { name := "policyBad", fn := fun _ => fun
  | [d] => { results := [.lit (.bool true)], args := [d] }
  | _ => none }
def policyBadRow : OpenClaim := { program := "ythcaphkkhiaoeaadoor", sum := "0c1c6c5febb339ed698b2d780d75c3fcc732916b41b73ac80fedd4cd3428b9a4", func := "bowdler/bowdlerlaw4.PolicyBad", spec := "policyBad", inPlace := ["internal/abi.NoEscape", "internal/bytealg.CountString", "internal/bytealg.IndexByteString", "internal/bytealg.IndexString"], unfollowed := true, recurses := true, named := ["unicode/utf8.first", "unicode/utf8.acceptRanges", "internal/bytealg.MaxLen"], apart := false, laid := [("unicode/utf8.acceptRanges", laid_unicode_utf8_acceptRanges), ("unicode/utf8.first", laid_unicode_utf8_first)] }
def PolicyBadSaid : Prop := policyBadRow.holds Tryd.pinned (OpenSpec.ofChange policyBadSpec)

/-- ITS FALSE NEIGHBOUR: 'it returns false'. Refute it at one input. -/
def policyBadWrong : ChangeSpec := { name := "policyBad", fn := fun _ => fun
  | [d] => { results := [.lit (.bool false)], args := [d] }
  | _ => none }
def PolicyBadWrongFalsely : Prop := policyBadRow.holds Tryd.pinned (OpenSpec.ofChange policyBadWrong)

/-- 'bowdlerlaw4.PolicyMany': WHATEVER THE INPUT: true; the input reads as it did. -/
def policyManySpec : ChangeSpec := { name := "policyMany", fn := fun _ => fun
  | [d] => { results := [.lit (.bool true)], args := [d] }
  | _ => none }
def policyManyRow : OpenClaim := { program := "ythcaphkkhiaoeaadoor", sum := "0c1c6c5febb339ed698b2d780d75c3fcc732916b41b73ac80fedd4cd3428b9a4", func := "bowdler/bowdlerlaw4.PolicyMany", spec := "policyMany", inPlace := ["internal/abi.NoEscape", "internal/bytealg.CountString", "internal/bytealg.IndexByteString", "internal/bytealg.IndexString"], unfollowed := true, recurses := true, named := ["unicode/utf8.first", "unicode/utf8.acceptRanges", "internal/bytealg.MaxLen"], apart := false, laid := [("unicode/utf8.acceptRanges", laid_unicode_utf8_acceptRanges), ("unicode/utf8.first", laid_unicode_utf8_first)] }
def PolicyManySaid : Prop := policyManyRow.holds Tryd.pinned (OpenSpec.ofChange policyManySpec)

/-- ITS FALSE NEIGHBOUR: 'it returns false'. Refute it at one input. -/
def policyManyWrong : ChangeSpec := { name := "policyMany", fn := fun _ => fun
  | [d] => { results := [.lit (.bool false)], args := [d] }
  | _ => none }
def PolicyManyWrongFalsely : Prop := policyManyRow.holds Tryd.pinned (OpenSpec.ofChange policyManyWrong)

/-- 'bowdlerlaw4.PolicyIndex': WHATEVER THE INPUT: true; the input reads as it did. -/
def policyIndexSpec : ChangeSpec := { name := "policyIndex", fn := fun _ => fun
  | [d1, d2, d3] => { results := [.lit (.bool true)], args := [d1, d2, d3] }
  | _ => none }
def policyIndexRow : OpenClaim := { program := "ythcaphkkhiaoeaadoor", sum := "0c1c6c5febb339ed698b2d780d75c3fcc732916b41b73ac80fedd4cd3428b9a4", func := "bowdler/bowdlerlaw4.PolicyIndex", spec := "policyIndex", inPlace := ["internal/abi.NoEscape", "internal/bytealg.CountString", "internal/bytealg.IndexByteString", "internal/bytealg.IndexString"], unfollowed := true, recurses := true, named := ["unicode/utf8.first", "unicode/utf8.acceptRanges", "internal/bytealg.MaxLen"], apart := false, laid := [("unicode/utf8.acceptRanges", laid_unicode_utf8_acceptRanges), ("unicode/utf8.first", laid_unicode_utf8_first)] }
def PolicyIndexSaid : Prop := policyIndexRow.holds Tryd.pinned (OpenSpec.ofChange policyIndexSpec)

/-- ITS FALSE NEIGHBOUR: 'it returns false'. Refute it at one input. -/
def policyIndexWrong : ChangeSpec := { name := "policyIndex", fn := fun _ => fun
  | [d1, d2, d3] => { results := [.lit (.bool false)], args := [d1, d2, d3] }
  | _ => none }
def PolicyIndexWrongFalsely : Prop := policyIndexRow.holds Tryd.pinned (OpenSpec.ofChange policyIndexWrong)

/- THE SECOND FORM. 'bulk': how many values and letters a reading holds, each counted each time it is reached (what is shared counts as often as it is met; a slice's spare places count too). A statement '..UptoSaid' is the law's where the arguments, and the package variables that the reading takes, are together of bulk at most 1048576: NARROWER than '..Said'. Prove '..Said' where nothing that the law and all that it calls make is longer than what came in: it says more and counts as full. Else prove '..UptoSaid'. A law counts once. -/
mutual
def uptoBulk {H : Type} : DataW H → Nat
  | .lit (.string bytes) => bytes.length + 1
  | .lit _ => 1
  | .nil => 1
  | .ptr d => uptoBulk d + 1
  | .slice elems spare => uptoBulkAll elems + uptoBulkAll spare + 1
  | .agg parts => uptoBulkAll parts + 1
  | .iface _ d => uptoBulk d + 1
  | .map entries => uptoBulkEntries entries + 1
  | .held _ => 1
def uptoBulkAll {H : Type} : List (DataW H) → Nat
  | [] => 0
  | d :: r => uptoBulk d + uptoBulkAll r
def uptoBulkEntries {H : Type} : List (Lit × DataW H) → Nat
  | [] => 0
  | x :: r => uptoBulkEntry x + uptoBulkEntries r
def uptoBulkEntry {H : Type} : Lit × DataW H → Nat
  | (.string bytes, d) => bytes.length + uptoBulk d + 1
  | (_, d) => uptoBulk d + 1
 end
def uptoSmall : (H : Type) → List (DataW H) → Bool := fun _ ds => decide (uptoBulkAll ds ≤ 1048576)
def OpenSpec.upto (s : _root_.Go.ChangeSpec) : _root_.Go.OpenSpec := { _root_.Go.OpenSpec.ofChange s with cond := some uptoSmall }

/-- 'bowdlerlaw2.LineBack', WHERE WHAT IT READS IS OF BULK AT MOST 1048576: true; the input reads as it did. -/
def lineBackUptoRow : OpenClaim := { program := "ythcaphkkhiaoeaadoor", sum := "0c1c6c5febb339ed698b2d780d75c3fcc732916b41b73ac80fedd4cd3428b9a4", func := "bowdler/bowdlerlaw2.LineBack", spec := "lineBack", inPlace := ["internal/bytealg.CountString", "internal/bytealg.IndexByteString", "internal/bytealg.IndexString", "internal/abi.NoEscape", "internal/bytealg.MakeNoZero"], named := ["unicode/utf8.first", "unicode/utf8.acceptRanges", "internal/bytealg.MaxLen"], apart := false, laid := [("unicode/utf8.acceptRanges", laid_unicode_utf8_acceptRanges), ("unicode/utf8.first", laid_unicode_utf8_first)], narrowed := true }
def LineBackUptoSaid : Prop := lineBackUptoRow.holds Tryd.pinned (OpenSpec.upto lineBackSpec)

/-- 'bowdlerlaw2.LineStrips', WHERE WHAT IT READS IS OF BULK AT MOST 1048576: true; the input reads as it did. -/
def lineStripsUptoRow : OpenClaim := { program := "ythcaphkkhiaoeaadoor", sum := "0c1c6c5febb339ed698b2d780d75c3fcc732916b41b73ac80fedd4cd3428b9a4", func := "bowdler/bowdlerlaw2.LineStrips", spec := "lineStrips", inPlace := ["internal/bytealg.CountString", "internal/bytealg.IndexByteString", "internal/bytealg.IndexString", "internal/abi.NoEscape", "internal/bytealg.MakeNoZero"], named := ["unicode/utf8.first", "unicode/utf8.acceptRanges", "internal/bytealg.MaxLen"], apart := false, laid := [("unicode/utf8.acceptRanges", laid_unicode_utf8_acceptRanges), ("unicode/utf8.first", laid_unicode_utf8_first)], narrowed := true }
def LineStripsUptoSaid : Prop := lineStripsUptoRow.holds Tryd.pinned (OpenSpec.upto lineStripsSpec)

/-- 'bowdlerlaw2.LineCounts', WHERE WHAT IT READS IS OF BULK AT MOST 1048576: true; the input reads as it did. -/
def lineCountsUptoRow : OpenClaim := { program := "ythcaphkkhiaoeaadoor", sum := "0c1c6c5febb339ed698b2d780d75c3fcc732916b41b73ac80fedd4cd3428b9a4", func := "bowdler/bowdlerlaw2.LineCounts", spec := "lineCounts", inPlace := ["internal/bytealg.CountString", "internal/bytealg.IndexByteString", "internal/bytealg.IndexString", "internal/abi.NoEscape", "internal/bytealg.MakeNoZero"], named := ["unicode/utf8.first", "unicode/utf8.acceptRanges", "internal/bytealg.MaxLen"], apart := false, laid := [("unicode/utf8.acceptRanges", laid_unicode_utf8_acceptRanges), ("unicode/utf8.first", laid_unicode_utf8_first)], narrowed := true }
def LineCountsUptoSaid : Prop := lineCountsUptoRow.holds Tryd.pinned (OpenSpec.upto lineCountsSpec)

/-- 'bowdlerlaw2.LineTabs', WHERE WHAT IT READS IS OF BULK AT MOST 1048576: true; the input reads as it did. -/
def lineTabsUptoRow : OpenClaim := { program := "ythcaphkkhiaoeaadoor", sum := "0c1c6c5febb339ed698b2d780d75c3fcc732916b41b73ac80fedd4cd3428b9a4", func := "bowdler/bowdlerlaw2.LineTabs", spec := "lineTabs", inPlace := ["internal/bytealg.CountString", "internal/bytealg.IndexByteString", "internal/bytealg.IndexString", "internal/abi.NoEscape", "internal/bytealg.MakeNoZero"], named := ["unicode/utf8.first", "unicode/utf8.acceptRanges", "internal/bytealg.MaxLen"], apart := false, laid := [("unicode/utf8.acceptRanges", laid_unicode_utf8_acceptRanges), ("unicode/utf8.first", laid_unicode_utf8_first)], narrowed := true }
def LineTabsUptoSaid : Prop := lineTabsUptoRow.holds Tryd.pinned (OpenSpec.upto lineTabsSpec)

/-- 'bowdlerlaw2.LineJoins', WHERE WHAT IT READS IS OF BULK AT MOST 1048576: true; the input reads as it did. -/
def lineJoinsUptoRow : OpenClaim := { program := "ythcaphkkhiaoeaadoor", sum := "0c1c6c5febb339ed698b2d780d75c3fcc732916b41b73ac80fedd4cd3428b9a4", func := "bowdler/bowdlerlaw2.LineJoins", spec := "lineJoins", inPlace := ["internal/bytealg.CountString", "internal/bytealg.IndexByteString", "internal/bytealg.IndexString", "internal/abi.NoEscape", "internal/bytealg.MakeNoZero"], named := ["unicode/utf8.first", "unicode/utf8.acceptRanges", "internal/bytealg.MaxLen"], apart := false, laid := [("unicode/utf8.acceptRanges", laid_unicode_utf8_acceptRanges), ("unicode/utf8.first", laid_unicode_utf8_first)], narrowed := true }
def LineJoinsUptoSaid : Prop := lineJoinsUptoRow.holds Tryd.pinned (OpenSpec.upto lineJoinsSpec)

/-- 'bowdlerlaw4.PolicyLines', WHERE WHAT IT READS IS OF BULK AT MOST 1048576: true; the input reads as it did. -/
def policyLinesUptoRow : OpenClaim := { program := "ythcaphkkhiaoeaadoor", sum := "0c1c6c5febb339ed698b2d780d75c3fcc732916b41b73ac80fedd4cd3428b9a4", func := "bowdler/bowdlerlaw4.PolicyLines", spec := "policyLines", inPlace := ["internal/abi.NoEscape", "internal/bytealg.CountString", "internal/bytealg.IndexByteString", "internal/bytealg.IndexString"], unfollowed := true, recurses := true, named := ["unicode/utf8.first", "unicode/utf8.acceptRanges", "internal/bytealg.MaxLen"], apart := false, laid := [("unicode/utf8.acceptRanges", laid_unicode_utf8_acceptRanges), ("unicode/utf8.first", laid_unicode_utf8_first)], narrowed := true }
def PolicyLinesUptoSaid : Prop := policyLinesUptoRow.holds Tryd.pinned (OpenSpec.upto policyLinesSpec)

/-- 'bowdlerlaw4.PolicyBad', WHERE WHAT IT READS IS OF BULK AT MOST 1048576: true; the input reads as it did. -/
def policyBadUptoRow : OpenClaim := { program := "ythcaphkkhiaoeaadoor", sum := "0c1c6c5febb339ed698b2d780d75c3fcc732916b41b73ac80fedd4cd3428b9a4", func := "bowdler/bowdlerlaw4.PolicyBad", spec := "policyBad", inPlace := ["internal/abi.NoEscape", "internal/bytealg.CountString", "internal/bytealg.IndexByteString", "internal/bytealg.IndexString"], unfollowed := true, recurses := true, named := ["unicode/utf8.first", "unicode/utf8.acceptRanges", "internal/bytealg.MaxLen"], apart := false, laid := [("unicode/utf8.acceptRanges", laid_unicode_utf8_acceptRanges), ("unicode/utf8.first", laid_unicode_utf8_first)], narrowed := true }
def PolicyBadUptoSaid : Prop := policyBadUptoRow.holds Tryd.pinned (OpenSpec.upto policyBadSpec)

/-- 'bowdlerlaw4.PolicyMany', WHERE WHAT IT READS IS OF BULK AT MOST 1048576: true; the input reads as it did. -/
def policyManyUptoRow : OpenClaim := { program := "ythcaphkkhiaoeaadoor", sum := "0c1c6c5febb339ed698b2d780d75c3fcc732916b41b73ac80fedd4cd3428b9a4", func := "bowdler/bowdlerlaw4.PolicyMany", spec := "policyMany", inPlace := ["internal/abi.NoEscape", "internal/bytealg.CountString", "internal/bytealg.IndexByteString", "internal/bytealg.IndexString"], unfollowed := true, recurses := true, named := ["unicode/utf8.first", "unicode/utf8.acceptRanges", "internal/bytealg.MaxLen"], apart := false, laid := [("unicode/utf8.acceptRanges", laid_unicode_utf8_acceptRanges), ("unicode/utf8.first", laid_unicode_utf8_first)], narrowed := true }
def PolicyManyUptoSaid : Prop := policyManyUptoRow.holds Tryd.pinned (OpenSpec.upto policyManySpec)

/-- 'bowdlerlaw4.PolicyIndex', WHERE WHAT IT READS IS OF BULK AT MOST 1048576: true; the input reads as it did. -/
def policyIndexUptoRow : OpenClaim := { program := "ythcaphkkhiaoeaadoor", sum := "0c1c6c5febb339ed698b2d780d75c3fcc732916b41b73ac80fedd4cd3428b9a4", func := "bowdler/bowdlerlaw4.PolicyIndex", spec := "policyIndex", inPlace := ["internal/abi.NoEscape", "internal/bytealg.CountString", "internal/bytealg.IndexByteString", "internal/bytealg.IndexString"], unfollowed := true, recurses := true, named := ["unicode/utf8.first", "unicode/utf8.acceptRanges", "internal/bytealg.MaxLen"], apart := false, laid := [("unicode/utf8.acceptRanges", laid_unicode_utf8_acceptRanges), ("unicode/utf8.first", laid_unicode_utf8_first)], narrowed := true }
def PolicyIndexUptoSaid : Prop := policyIndexUptoRow.holds Tryd.pinned (OpenSpec.upto policyIndexSpec)

end Rows
end Go.Proofs.YthcaphkkhiaoeaaDoor
