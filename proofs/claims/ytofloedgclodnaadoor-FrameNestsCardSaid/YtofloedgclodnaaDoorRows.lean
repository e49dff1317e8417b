/-
  NARROWER THAN 'FOR EVERY INPUT', by the rows' own cells (each row's printed sentence says how): PolicyLines: laid · PolicyBad: laid · PolicyMany: laid · PolicyIndex: laid · FrameNests: laid · FrameLoose: laid · SpansOne: laid · FrameDepths: laid · HeadingLabels: laid · SpansBack: laid · FrameBack: laid · FrameTurns: laid.
  DERIVED. THE GIVEN ROWS OF THIS SEAT. 12 by the template 'for every input the law returns true; each argument reads behind the call as it read before'; 0 by the template 'total and deterministic' (their statements: YtofloedgclodnaaDoorTotals.lean).
  GIVEN WITH THE SEED: the statements are not yours to turn. If you find one false, say at which input.
  Laid BY PROGRAM, IN A SANDBOX (cutbox-rows.mjs): the forced cells as the released guide's own fill.sh prints them over the translation c0ee282bacf85bc9… (all of the seat's roots in one cut). By AI agents, Wed Nov 11 2026. No macro, syntax, notation, axiom, sorry.
-/
import Derived.Test.YtofloedgclodnaaDoorChecked
import GoSem.PinnedTables
import GoSem.Claim
import GoSem.ClaimJoined
import GoSem.ClaimMapViews
import Derived.JoinedTies
import Derived.KernelRfl
namespace Go.Proofs.YtofloedgclodnaaDoor
/- THE CELL 'sum', in the pinned program and in every row, IS THE sha256 OF THE DUMP (.gsa) THAT YtofloedgclodnaaDoorProg.lean LOADS. Nothing in Lean hashes anything: it is a label: what it is worth is what the hold of that sum in a sandbox is worth. -/
noncomputable def Tryd.pinned : Pinned := { name := "ytofloedgclodnaadoor", sum := "c0ee282bacf85bc9da631001bb87e46774047e88ba4e36b7870c90f9ade93047", checked := Tryd.checked }
namespace Rows
def none {H : Type} : Left H := { results := [], args := [] }

/- WHAT THE LISTED PACKAGE-LEVEL VARIABLES READ AS WHEN THE CALL BEGINS. Each datum BY PROGRAM (the guide's laid-datum.mjs) off the statement by which the dump's own 'gosem.cut.vars' lays the variable. In a bare row this is a premise. The card (YtofloedgclodnaaDoorCards.lean) ties it to the program's text. -/
def laid_unicode_utf8_acceptRanges {H : Type} : DataW H := .agg [.agg [.lit (.int .u8 128), .lit (.int .u8 191)], .agg [.lit (.int .u8 160), .lit (.int .u8 191)], .agg [.lit (.int .u8 128), .lit (.int .u8 159)], .agg [.lit (.int .u8 144), .lit (.int .u8 191)], .agg [.lit (.int .u8 128), .lit (.int .u8 143)], .agg [.lit (.int .u8 0), .lit (.int .u8 0)], .agg [.lit (.int .u8 0), .lit (.int .u8 0)], .agg [.lit (.int .u8 0), .lit (.int .u8 0)], .agg [.lit (.int .u8 0), .lit (.int .u8 0)], .agg [.lit (.int .u8 0), .lit (.int .u8 0)], .agg [.lit (.int .u8 0), .lit (.int .u8 0)], .agg [.lit (.int .u8 0), .lit (.int .u8 0)], .agg [.lit (.int .u8 0), .lit (.int .u8 0)], .agg [.lit (.int .u8 0), .lit (.int .u8 0)], .agg [.lit (.int .u8 0), .lit (.int .u8 0)], .agg [.lit (.int .u8 0), .lit (.int .u8 0)]]
/-- One of Go's own tables, pinned by name: the form's constant. -/
def laid_unicode_utf8_first : DataW Unit := Go.Pinned.utf8First

/-- 'bowdlerlaw4.PolicyLines': WHATEVER THE INPUT: true; the input reads as it did. -/
def policyLinesSpec : ChangeSpec := { name := "policyLines", fn := fun _ => fun
  | [d1, d2, d3, d4] => { results := [.lit (.bool true)], args := [d1, d2, d3, d4] }
  | _ => none }
def policyLinesRow : OpenClaim := { program := "ytofloedgclodnaadoor", sum := "c0ee282bacf85bc9da631001bb87e46774047e88ba4e36b7870c90f9ade93047", func := "bowdler/bowdlerlaw4.PolicyLines", spec := "policyLines", inPlace := ["internal/abi.NoEscape", "internal/bytealg.CountString", "internal/bytealg.IndexByteString", "internal/bytealg.IndexString"], unfollowed := true, recurses := true, named := ["unicode/utf8.first", "unicode/utf8.acceptRanges", "internal/bytealg.MaxLen"], apart := false, laid := [("unicode/utf8.acceptRanges", laid_unicode_utf8_acceptRanges), ("unicode/utf8.first", laid_unicode_utf8_first)] }
def PolicyLinesSaid : Prop := policyLinesRow.holds Tryd.pinned (OpenSpec.ofChange policyLinesSpec)

/-- ITS FALSE NEIGHBOUR: 'it returns false'. Refute it at one input. -/
def policyLinesWrong : ChangeSpec := { name := "policyLines", fn := fun _ => fun
  | [d1, d2, d3, d4] => { results := [.lit (.bool false)], args := [d1, d2, d3, d4] }
  | _ => none }
def PolicyLinesWrongFalsely : Prop := policyLinesRow.holds Tryd.pinned (OpenSpec.ofChange policyLinesWrong)

/-- 'bowdlerlaw4.PolicyBad': WHATEVER THE INPUT: true; the input reads as it did. -/
def policyBadSpec : ChangeSpec := { name := "policyBad", fn := fun _ => fun
  | [d] => { results := [.lit (.bool true)], args := [d] }
  | _ => none }
def policyBadRow : OpenClaim := { program := "ytofloedgclodnaadoor", sum := "c0ee282bacf85bc9da631001bb87e46774047e88ba4e36b7870c90f9ade93047", func := "bowdler/bowdlerlaw4.PolicyBad", spec := "policyBad", inPlace := ["internal/abi.NoEscape", "internal/bytealg.CountString", "internal/bytealg.IndexByteString", "internal/bytealg.IndexString"], unfollowed := true, recurses := true, named := ["unicode/utf8.first", "unicode/utf8.acceptRanges", "internal/bytealg.MaxLen"], apart := false, laid := [("unicode/utf8.acceptRanges", laid_unicode_utf8_acceptRanges), ("unicode/utf8.first", laid_unicode_utf8_first)] }
def PolicyBadSaid : Prop := policyBadRow.holds Tryd.pinned (OpenSpec.ofChange policyBadSpec)

/-- ITS FALSE NEIGHBOUR: 'it returns false'. Refute it at one input. -/
def policyBadWrong : ChangeSpec := { name := "policyBad", fn := fun _ => fun
  | [d] => { results := [.lit (.bool false)], args := [d] }
  | _ => none }
def PolicyBadWrongFalsely : Prop := policyBadRow.holds Tryd.pinned (OpenSpec.ofChange policyBadWrong)

/-- 'bowdlerlaw4.PolicyMany': WHATEVER THE INPUT: true; the input reads as it did. -/
def policyManySpec : ChangeSpec := { name := "policyMany", fn := fun _ => fun
  | [d] => { results := [.lit (.bool true)], args := [d] }
  | _ => none }
def policyManyRow : OpenClaim := { program := "ytofloedgclodnaadoor", sum := "c0ee282bacf85bc9da631001bb87e46774047e88ba4e36b7870c90f9ade93047", func := "bowdler/bowdlerlaw4.PolicyMany", spec := "policyMany", inPlace := ["internal/abi.NoEscape", "internal/bytealg.CountString", "internal/bytealg.IndexByteString", "internal/bytealg.IndexString"], unfollowed := true, recurses := true, named := ["unicode/utf8.first", "unicode/utf8.acceptRanges", "internal/bytealg.MaxLen"], apart := false, laid := [("unicode/utf8.acceptRanges", laid_unicode_utf8_acceptRanges), ("unicode/utf8.first", laid_unicode_utf8_first)] }
def PolicyManySaid : Prop := policyManyRow.holds Tryd.pinned (OpenSpec.ofChange policyManySpec)

/-- ITS FALSE NEIGHBOUR: 'it returns false'. Refute it at one input. -/
def policyManyWrong : ChangeSpec := { name := "policyMany", fn := fun _ => fun
  | [d] => { results := [.lit (.bool false)], args := [d] }
  | _ => none }
def PolicyManyWrongFalsely : Prop := policyManyRow.holds Tryd.pinned (OpenSpec.ofChange policyManyWrong)

/-- 'bowdlerlaw4.PolicyIndex': WHATEVER THE INPUT: true; the input reads as it did. -/
def policyIndexSpec : ChangeSpec := { name := "policyIndex", fn := fun _ => fun
  | [d1, d2, d3] => { results := [.lit (.bool true)], args := [d1, d2, d3] }
  | _ => none }
def policyIndexRow : OpenClaim := { program := "ytofloedgclodnaadoor", sum := "c0ee282bacf85bc9da631001bb87e46774047e88ba4e36b7870c90f9ade93047", func := "bowdler/bowdlerlaw4.PolicyIndex", spec := "policyIndex", inPlace := ["internal/abi.NoEscape", "internal/bytealg.CountString", "internal/bytealg.IndexByteString", "internal/bytealg.IndexString"], unfollowed := true, recurses := true, named := ["unicode/utf8.first", "unicode/utf8.acceptRanges", "internal/bytealg.MaxLen"], apart := false, laid := [("unicode/utf8.acceptRanges", laid_unicode_utf8_acceptRanges), ("unicode/utf8.first", laid_unicode_utf8_first)] }
def PolicyIndexSaid : Prop := policyIndexRow.holds Tryd.pinned (OpenSpec.ofChange policyIndexSpec)

/-- ITS FALSE NEIGHBOUR: 'it returns false'. Refute it at one input. -/
def policyIndexWrong : ChangeSpec := { name := "policyIndex", fn := fun _ => fun
  | [d1, d2, d3] => { results := [.lit (.bool false)], args := [d1, d2, d3] }
  | _ => none }
def PolicyIndexWrongFalsely : Prop := policyIndexRow.holds Tryd.pinned (OpenSpec.ofChange policyIndexWrong)

/-- 'bowdlerlaw6.FrameNests': WHATEVER THE INPUT: true; the input reads as it did. -/
def frameNestsSpec : ChangeSpec := { name := "frameNests", fn := fun _ => fun
  | [d1, d2, d3] => { results := [.lit (.bool true)], args := [d1, d2, d3] }
  | _ => none }
def frameNestsRow : OpenClaim := { program := "ytofloedgclodnaadoor", sum := "c0ee282bacf85bc9da631001bb87e46774047e88ba4e36b7870c90f9ade93047", func := "bowdler/bowdlerlaw6.FrameNests", spec := "frameNests", inPlace := ["internal/bytealg.IndexByteString", "internal/bytealg.IndexString"], named := ["unicode/utf8.first", "unicode/utf8.acceptRanges", "internal/bytealg.MaxLen"], apart := false, laid := [("unicode/utf8.acceptRanges", laid_unicode_utf8_acceptRanges), ("unicode/utf8.first", laid_unicode_utf8_first)] }
def FrameNestsSaid : Prop := frameNestsRow.holds Tryd.pinned (OpenSpec.ofChange frameNestsSpec)

/-- ITS FALSE NEIGHBOUR: 'it returns false'. Refute it at one input. -/
def frameNestsWrong : ChangeSpec := { name := "frameNests", fn := fun _ => fun
  | [d1, d2, d3] => { results := [.lit (.bool false)], args := [d1, d2, d3] }
  | _ => none }
def FrameNestsWrongFalsely : Prop := frameNestsRow.holds Tryd.pinned (OpenSpec.ofChange frameNestsWrong)

/-- 'bowdlerlaw6.FrameLoose': WHATEVER THE INPUT: true; the input reads as it did. -/
def frameLooseSpec : ChangeSpec := { name := "frameLoose", fn := fun _ => fun
  | [d1, d2] => { results := [.lit (.bool true)], args := [d1, d2] }
  | _ => none }
def frameLooseRow : OpenClaim := { program := "ytofloedgclodnaadoor", sum := "c0ee282bacf85bc9da631001bb87e46774047e88ba4e36b7870c90f9ade93047", func := "bowdler/bowdlerlaw6.FrameLoose", spec := "frameLoose", inPlace := ["internal/bytealg.IndexByteString", "internal/bytealg.IndexString"], named := ["unicode/utf8.first", "unicode/utf8.acceptRanges", "internal/bytealg.MaxLen"], apart := false, laid := [("unicode/utf8.acceptRanges", laid_unicode_utf8_acceptRanges), ("unicode/utf8.first", laid_unicode_utf8_first)] }
def FrameLooseSaid : Prop := frameLooseRow.holds Tryd.pinned (OpenSpec.ofChange frameLooseSpec)

/-- ITS FALSE NEIGHBOUR: 'it returns false'. Refute it at one input. -/
def frameLooseWrong : ChangeSpec := { name := "frameLoose", fn := fun _ => fun
  | [d1, d2] => { results := [.lit (.bool false)], args := [d1, d2] }
  | _ => none }
def FrameLooseWrongFalsely : Prop := frameLooseRow.holds Tryd.pinned (OpenSpec.ofChange frameLooseWrong)

/-- 'bowdlerlaw6.SpansOne': WHATEVER THE INPUT: true; the input reads as it did. -/
def spansOneSpec : ChangeSpec := { name := "spansOne", fn := fun _ => fun
  | [d1, d2, d3, d4] => { results := [.lit (.bool true)], args := [d1, d2, d3, d4] }
  | _ => none }
def spansOneRow : OpenClaim := { program := "ytofloedgclodnaadoor", sum := "c0ee282bacf85bc9da631001bb87e46774047e88ba4e36b7870c90f9ade93047", func := "bowdler/bowdlerlaw6.SpansOne", spec := "spansOne", inPlace := ["internal/bytealg.IndexByteString", "internal/bytealg.IndexString"], named := ["unicode/utf8.first", "unicode/utf8.acceptRanges", "internal/bytealg.MaxLen"], apart := false, laid := [("unicode/utf8.acceptRanges", laid_unicode_utf8_acceptRanges), ("unicode/utf8.first", laid_unicode_utf8_first)] }
def SpansOneSaid : Prop := spansOneRow.holds Tryd.pinned (OpenSpec.ofChange spansOneSpec)

/-- ITS FALSE NEIGHBOUR: 'it returns false'. Refute it at one input. -/
def spansOneWrong : ChangeSpec := { name := "spansOne", fn := fun _ => fun
  | [d1, d2, d3, d4] => { results := [.lit (.bool false)], args := [d1, d2, d3, d4] }
  | _ => none }
def SpansOneWrongFalsely : Prop := spansOneRow.holds Tryd.pinned (OpenSpec.ofChange spansOneWrong)

/-- 'bowdlerlaw6.FrameDepths': WHATEVER THE INPUT: true; the input reads as it did. -/
def frameDepthsSpec : ChangeSpec := { name := "frameDepths", fn := fun _ => fun
  | [d] => { results := [.lit (.bool true)], args := [d] }
  | _ => none }
def frameDepthsRow : OpenClaim := { program := "ytofloedgclodnaadoor", sum := "c0ee282bacf85bc9da631001bb87e46774047e88ba4e36b7870c90f9ade93047", func := "bowdler/bowdlerlaw6.FrameDepths", spec := "frameDepths", inPlace := ["internal/bytealg.IndexByteString", "internal/bytealg.IndexString"], named := ["unicode/utf8.first", "unicode/utf8.acceptRanges", "internal/bytealg.MaxLen"], apart := false, laid := [("unicode/utf8.acceptRanges", laid_unicode_utf8_acceptRanges), ("unicode/utf8.first", laid_unicode_utf8_first)] }
def FrameDepthsSaid : Prop := frameDepthsRow.holds Tryd.pinned (OpenSpec.ofChange frameDepthsSpec)

/-- ITS FALSE NEIGHBOUR: 'it returns false'. Refute it at one input. -/
def frameDepthsWrong : ChangeSpec := { name := "frameDepths", fn := fun _ => fun
  | [d] => { results := [.lit (.bool false)], args := [d] }
  | _ => none }
def FrameDepthsWrongFalsely : Prop := frameDepthsRow.holds Tryd.pinned (OpenSpec.ofChange frameDepthsWrong)

/-- 'bowdlerlaw6.HeadingLabels': WHATEVER THE INPUT: true; the input reads as it did. -/
def headingLabelsSpec : ChangeSpec := { name := "headingLabels", fn := fun _ => fun
  | [d1, d2, d3, d4, d5] => { results := [.lit (.bool true)], args := [d1, d2, d3, d4, d5] }
  | _ => none }
def headingLabelsRow : OpenClaim := { program := "ytofloedgclodnaadoor", sum := "c0ee282bacf85bc9da631001bb87e46774047e88ba4e36b7870c90f9ade93047", func := "bowdler/bowdlerlaw6.HeadingLabels", spec := "headingLabels", inPlace := ["internal/bytealg.IndexByteString", "internal/bytealg.IndexString"], named := ["unicode/utf8.first", "unicode/utf8.acceptRanges", "internal/bytealg.MaxLen"], apart := false, laid := [("unicode/utf8.acceptRanges", laid_unicode_utf8_acceptRanges), ("unicode/utf8.first", laid_unicode_utf8_first)] }
def HeadingLabelsSaid : Prop := headingLabelsRow.holds Tryd.pinned (OpenSpec.ofChange headingLabelsSpec)

/-- ITS FALSE NEIGHBOUR: 'it returns false'. Refute it at one input. -/
def headingLabelsWrong : ChangeSpec := { name := "headingLabels", fn := fun _ => fun
  | [d1, d2, d3, d4, d5] => { results := [.lit (.bool false)], args := [d1, d2, d3, d4, d5] }
  | _ => none }
def HeadingLabelsWrongFalsely : Prop := headingLabelsRow.holds Tryd.pinned (OpenSpec.ofChange headingLabelsWrong)

/-- 'bowdlerlaw6.SpansBack': WHATEVER THE INPUT: true; the input reads as it did. -/
def spansBackSpec : ChangeSpec := { name := "spansBack", fn := fun _ => fun
  | [d1, d2] => { results := [.lit (.bool true)], args := [d1, d2] }
  | _ => none }
def spansBackRow : OpenClaim := { program := "ytofloedgclodnaadoor", sum := "c0ee282bacf85bc9da631001bb87e46774047e88ba4e36b7870c90f9ade93047", func := "bowdler/bowdlerlaw6.SpansBack", spec := "spansBack", inPlace := ["internal/bytealg.IndexByteString", "internal/bytealg.IndexString", "internal/abi.NoEscape"], named := ["unicode/utf8.first", "unicode/utf8.acceptRanges", "internal/bytealg.MaxLen"], apart := false, laid := [("unicode/utf8.acceptRanges", laid_unicode_utf8_acceptRanges), ("unicode/utf8.first", laid_unicode_utf8_first)] }
def SpansBackSaid : Prop := spansBackRow.holds Tryd.pinned (OpenSpec.ofChange spansBackSpec)

/-- ITS FALSE NEIGHBOUR: 'it returns false'. Refute it at one input. -/
def spansBackWrong : ChangeSpec := { name := "spansBack", fn := fun _ => fun
  | [d1, d2] => { results := [.lit (.bool false)], args := [d1, d2] }
  | _ => none }
def SpansBackWrongFalsely : Prop := spansBackRow.holds Tryd.pinned (OpenSpec.ofChange spansBackWrong)

/-- 'bowdlerlaw6.FrameBack': WHATEVER THE INPUT: true; the input reads as it did. -/
def frameBackSpec : ChangeSpec := { name := "frameBack", fn := fun _ => fun
  | [d] => { results := [.lit (.bool true)], args := [d] }
  | _ => none }
def frameBackRow : OpenClaim := { program := "ytofloedgclodnaadoor", sum := "c0ee282bacf85bc9da631001bb87e46774047e88ba4e36b7870c90f9ade93047", func := "bowdler/bowdlerlaw6.FrameBack", spec := "frameBack", inPlace := ["internal/bytealg.IndexByteString", "internal/bytealg.IndexString"], unfollowed := true, recurses := true, named := ["unicode/utf8.first", "unicode/utf8.acceptRanges", "internal/bytealg.MaxLen"], apart := false, laid := [("unicode/utf8.acceptRanges", laid_unicode_utf8_acceptRanges), ("unicode/utf8.first", laid_unicode_utf8_first)] }
def FrameBackSaid : Prop := frameBackRow.holds Tryd.pinned (OpenSpec.ofChange frameBackSpec)

/-- ITS FALSE NEIGHBOUR: 'it returns false'. Refute it at one input. -/
def frameBackWrong : ChangeSpec := { name := "frameBack", fn := fun _ => fun
  | [d] => { results := [.lit (.bool false)], args := [d] }
  | _ => none }
def FrameBackWrongFalsely : Prop := frameBackRow.holds Tryd.pinned (OpenSpec.ofChange frameBackWrong)

/-- 'bowdlerlaw6.FrameTurns': WHATEVER THE INPUT: true; the input reads as it did. -/
def frameTurnsSpec : ChangeSpec := { name := "frameTurns", fn := fun _ => fun
  | [d] => { results := [.lit (.bool true)], args := [d] }
  | _ => none }
def frameTurnsRow : OpenClaim := { program := "ytofloedgclodnaadoor", sum := "c0ee282bacf85bc9da631001bb87e46774047e88ba4e36b7870c90f9ade93047", func := "bowdler/bowdlerlaw6.FrameTurns", spec := "frameTurns", inPlace := ["internal/bytealg.IndexByteString", "internal/bytealg.IndexString"], unfollowed := true, recurses := true, named := ["unicode/utf8.first", "unicode/utf8.acceptRanges", "internal/bytealg.MaxLen"], apart := false, laid := [("unicode/utf8.acceptRanges", laid_unicode_utf8_acceptRanges), ("unicode/utf8.first", laid_unicode_utf8_first)] }
def FrameTurnsSaid : Prop := frameTurnsRow.holds Tryd.pinned (OpenSpec.ofChange frameTurnsSpec)

/-- ITS FALSE NEIGHBOUR: 'it returns false'. Refute it at one input. -/
def frameTurnsWrong : ChangeSpec := { name := "frameTurns", fn := fun _ => fun
  | [d] => { results := [.lit (.bool false)], args := [d] }
  | _ => none }
def FrameTurnsWrongFalsely : Prop := frameTurnsRow.holds Tryd.pinned (OpenSpec.ofChange frameTurnsWrong)

/- THE SECOND FORM. 'bulk': how many values and letters a reading holds, each counted each time it is reached (what is shared counts as often as it is met; a slice's spare places count too). A statement '..UptoSaid' is the law's where the arguments, and the package variables that the reading takes, are together of bulk at most 1048576: NARROWER than '..Said'. Prove '..Said' where nothing that the law and all that it calls make is longer than what came in: it says more and counts as full. Else prove '..UptoSaid'. A law counts once. -/
mutual
def uptoBulk {H : Type} : DataW H → Nat
  | .lit (.string bytes) => bytes.length + 1
  | .lit _ => 1
  | .nil => 1
  | .ptr d => uptoBulk d + 1
  | .slice elems spare => uptoBulkAll elems + uptoBulkAll spare + 1
  | .agg parts => uptoBulkAll parts + 1
  | .iface _ d => uptoBulk d + 1
  | .map entries => uptoBulkEntries entries + 1
  | .held _ => 1
def uptoBulkAll {H : Type} : List (DataW H) → Nat
  | [] => 0
  | d :: r => uptoBulk d + uptoBulkAll r
def uptoBulkEntries {H : Type} : List (Lit × DataW H) → Nat
  | [] => 0
  | x :: r => uptoBulkEntry x + uptoBulkEntries r
def uptoBulkEntry {H : Type} : Lit × DataW H → Nat
  | (.string bytes, d) => bytes.length + uptoBulk d + 1
  | (_, d) => uptoBulk d + 1
 end
def uptoSmall : (H : Type) → List (DataW H) → Bool := fun _ ds => decide (uptoBulkAll ds ≤ 1048576)
def OpenSpec.upto (s : _root_.Go.ChangeSpec) : _root_.Go.OpenSpec := { _root_.Go.OpenSpec.ofChange s with cond := some uptoSmall }

/-- 'bowdlerlaw4.PolicyLines', WHERE WHAT IT READS IS OF BULK AT MOST 1048576: true; the input reads as it did. -/
def policyLinesUptoRow : OpenClaim := { program := "ytofloedgclodnaadoor", sum := "c0ee282bacf85bc9da631001bb87e46774047e88ba4e36b7870c90f9ade93047", func := "bowdler/bowdlerlaw4.PolicyLines", spec := "policyLines", inPlace := ["internal/abi.NoEscape", "internal/bytealg.CountString", "internal/bytealg.IndexByteString", "internal/bytealg.IndexString"], unfollowed := true, recurses := true, named := ["unicode/utf8.first", "unicode/utf8.acceptRanges", "internal/bytealg.MaxLen"], apart := false, laid := [("unicode/utf8.acceptRanges", laid_unicode_utf8_acceptRanges), ("unicode/utf8.first", laid_unicode_utf8_first)], narrowed := true }
def PolicyLinesUptoSaid : Prop := policyLinesUptoRow.holds Tryd.pinned (OpenSpec.upto policyLinesSpec)

/-- 'bowdlerlaw4.PolicyBad', WHERE WHAT IT READS IS OF BULK AT MOST 1048576: true; the input reads as it did. -/
def policyBadUptoRow : OpenClaim := { program := "ytofloedgclodnaadoor", sum := "c0ee282bacf85bc9da631001bb87e46774047e88ba4e36b7870c90f9ade93047", func := "bowdler/bowdlerlaw4.PolicyBad", spec := "policyBad", inPlace := ["internal/abi.NoEscape", "internal/bytealg.CountString", "internal/bytealg.IndexByteString", "internal/bytealg.IndexString"], unfollowed := true, recurses := true, named := ["unicode/utf8.first", "unicode/utf8.acceptRanges", "internal/bytealg.MaxLen"], apart := false, laid := [("unicode/utf8.acceptRanges", laid_unicode_utf8_acceptRanges), ("unicode/utf8.first", laid_unicode_utf8_first)], narrowed := true }
def PolicyBadUptoSaid : Prop := policyBadUptoRow.holds Tryd.pinned (OpenSpec.upto policyBadSpec)

/-- 'bowdlerlaw4.PolicyMany', WHERE WHAT IT READS IS OF BULK AT MOST 1048576: true; the input reads as it did. -/
def policyManyUptoRow : OpenClaim := { program := "ytofloedgclodnaadoor", sum := "c0ee282bacf85bc9da631001bb87e46774047e88ba4e36b7870c90f9ade93047", func := "bowdler/bowdlerlaw4.PolicyMany", spec := "policyMany", inPlace := ["internal/abi.NoEscape", "internal/bytealg.CountString", "internal/bytealg.IndexByteString", "internal/bytealg.IndexString"], unfollowed := true, recurses := true, named := ["unicode/utf8.first", "unicode/utf8.acceptRanges", "internal/bytealg.MaxLen"], apart := false, laid := [("unicode/utf8.acceptRanges", laid_unicode_utf8_acceptRanges), ("unicode/utf8.first", laid_unicode_utf8_first)], narrowed := true }
def PolicyManyUptoSaid : Prop := policyManyUptoRow.holds Tryd.pinned (OpenSpec.upto policyManySpec)

/-- 'bowdlerlaw4.PolicyIndex', WHERE WHAT IT READS IS OF BULK AT MOST 1048576: true; the input reads as it did. -/
def policyIndexUptoRow : OpenClaim := { program := "ytofloedgclodnaadoor", sum := "c0ee282bacf85bc9da631001bb87e46774047e88ba4e36b7870c90f9ade93047", func := "bowdler/bowdlerlaw4.PolicyIndex", spec := "policyIndex", inPlace := ["internal/abi.NoEscape", "internal/bytealg.CountString", "internal/bytealg.IndexByteString", "internal/bytealg.IndexString"], unfollowed := true, recurses := true, named := ["unicode/utf8.first", "unicode/utf8.acceptRanges", "internal/bytealg.MaxLen"], apart := false, laid := [("unicode/utf8.acceptRanges", laid_unicode_utf8_acceptRanges), ("unicode/utf8.first", laid_unicode_utf8_first)], narrowed := true }
def PolicyIndexUptoSaid : Prop := policyIndexUptoRow.holds Tryd.pinned (OpenSpec.upto policyIndexSpec)

/-- 'bowdlerlaw6.FrameNests', WHERE WHAT IT READS IS OF BULK AT MOST 1048576: true; the input reads as it did. -/
def frameNestsUptoRow : OpenClaim := { program := "ytofloedgclodnaadoor", sum := "c0ee282bacf85bc9da631001bb87e46774047e88ba4e36b7870c90f9ade93047", func := "bowdler/bowdlerlaw6.FrameNests", spec := "frameNests", inPlace := ["internal/bytealg.IndexByteString", "internal/bytealg.IndexString"], named := ["unicode/utf8.first", "unicode/utf8.acceptRanges", "internal/bytealg.MaxLen"], apart := false, laid := [("unicode/utf8.acceptRanges", laid_unicode_utf8_acceptRanges), ("unicode/utf8.first", laid_unicode_utf8_first)], narrowed := true }
def FrameNestsUptoSaid : Prop := frameNestsUptoRow.holds Tryd.pinned (OpenSpec.upto frameNestsSpec)

/-- 'bowdlerlaw6.FrameLoose', WHERE WHAT IT READS IS OF BULK AT MOST 1048576: true; the input reads as it did. -/
def frameLooseUptoRow : OpenClaim := { program := "ytofloedgclodnaadoor", sum := "c0ee282bacf85bc9da631001bb87e46774047e88ba4e36b7870c90f9ade93047", func := "bowdler/bowdlerlaw6.FrameLoose", spec := "frameLoose", inPlace := ["internal/bytealg.IndexByteString", "internal/bytealg.IndexString"], named := ["unicode/utf8.first", "unicode/utf8.acceptRanges", "internal/bytealg.MaxLen"], apart := false, laid := [("unicode/utf8.acceptRanges", laid_unicode_utf8_acceptRanges), ("unicode/utf8.first", laid_unicode_utf8_first)], narrowed := true }
def FrameLooseUptoSaid : Prop := frameLooseUptoRow.holds Tryd.pinned (OpenSpec.upto frameLooseSpec)

/-- 'bowdlerlaw6.SpansOne', WHERE WHAT IT READS IS OF BULK AT MOST 1048576: true; the input reads as it did. -/
def spansOneUptoRow : OpenClaim := { program := "ytofloedgclodnaadoor", sum := "c0ee282bacf85bc9da631001bb87e46774047e88ba4e36b7870c90f9ade93047", func := "bowdler/bowdlerlaw6.SpansOne", spec := "spansOne", inPlace := ["internal/bytealg.IndexByteString", "internal/bytealg.IndexString"], named := ["unicode/utf8.first", "unicode/utf8.acceptRanges", "internal/bytealg.MaxLen"], apart := false, laid := [("unicode/utf8.acceptRanges", laid_unicode_utf8_acceptRanges), ("unicode/utf8.first", laid_unicode_utf8_first)], narrowed := true }
def SpansOneUptoSaid : Prop := spansOneUptoRow.holds Tryd.pinned (OpenSpec.upto spansOneSpec)

/-- 'bowdlerlaw6.FrameDepths', WHERE WHAT IT READS IS OF BULK AT MOST 1048576: true; the input reads as it did. -/
def frameDepthsUptoRow : OpenClaim := { program := "ytofloedgclodnaadoor", sum := "c0ee282bacf85bc9da631001bb87e46774047e88ba4e36b7870c90f9ade93047", func := "bowdler/bowdlerlaw6.FrameDepths", spec := "frameDepths", inPlace := ["internal/bytealg.IndexByteString", "internal/bytealg.IndexString"], named := ["unicode/utf8.first", "unicode/utf8.acceptRanges", "internal/bytealg.MaxLen"], apart := false, laid := [("unicode/utf8.acceptRanges", laid_unicode_utf8_acceptRanges), ("unicode/utf8.first", laid_unicode_utf8_first)], narrowed := true }
def FrameDepthsUptoSaid : Prop := frameDepthsUptoRow.holds Tryd.pinned (OpenSpec.upto frameDepthsSpec)

/-- 'bowdlerlaw6.HeadingLabels', WHERE WHAT IT READS IS OF BULK AT MOST 1048576: true; the input reads as it did. -/
def headingLabelsUptoRow : OpenClaim := { program := "ytofloedgclodnaadoor", sum := "c0ee282bacf85bc9da631001bb87e46774047e88ba4e36b7870c90f9ade93047", func := "bowdler/bowdlerlaw6.HeadingLabels", spec := "headingLabels", inPlace := ["internal/bytealg.IndexByteString", "internal/bytealg.IndexString"], named := ["unicode/utf8.first", "unicode/utf8.acceptRanges", "internal/bytealg.MaxLen"], apart := false, laid := [("unicode/utf8.acceptRanges", laid_unicode_utf8_acceptRanges), ("unicode/utf8.first", laid_unicode_utf8_first)], narrowed := true }
def HeadingLabelsUptoSaid : Prop := headingLabelsUptoRow.holds Tryd.pinned (OpenSpec.upto headingLabelsSpec)

/-- 'bowdlerlaw6.SpansBack', WHERE WHAT IT READS IS OF BULK AT MOST 1048576: true; the input reads as it did. -/
def spansBackUptoRow : OpenClaim := { program := "ytofloedgclodnaadoor", sum := "c0ee282bacf85bc9da631001bb87e46774047e88ba4e36b7870c90f9ade93047", func := "bowdler/bowdlerlaw6.SpansBack", spec := "spansBack", inPlace := ["internal/bytealg.IndexByteString", "internal/bytealg.IndexString", "internal/abi.NoEscape"], named := ["unicode/utf8.first", "unicode/utf8.acceptRanges", "internal/bytealg.MaxLen"], apart := false, laid := [("unicode/utf8.acceptRanges", laid_unicode_utf8_acceptRanges), ("unicode/utf8.first", laid_unicode_utf8_first)], narrowed := true }
def SpansBackUptoSaid : Prop := spansBackUptoRow.holds Tryd.pinned (OpenSpec.upto spansBackSpec)

/-- 'bowdlerlaw6.FrameBack', WHERE WHAT IT READS IS OF BULK AT MOST 1048576: true; the input reads as it did. -/
def frameBackUptoRow : OpenClaim := { program := "ytofloedgclodnaadoor", sum := "c0ee282bacf85bc9da631001bb87e46774047e88ba4e36b7870c90f9ade93047", func := "bowdler/bowdlerlaw6.FrameBack", spec := "frameBack", inPlace := ["internal/bytealg.IndexByteString", "internal/bytealg.IndexString"], unfollowed := true, recurses := true, named := ["unicode/utf8.first", "unicode/utf8.acceptRanges", "internal/bytealg.MaxLen"], apart := false, laid := [("unicode/utf8.acceptRanges", laid_unicode_utf8_acceptRanges), ("unicode/utf8.first", laid_unicode_utf8_first)], narrowed := true }
def FrameBackUptoSaid : Prop := frameBackUptoRow.holds Tryd.pinned (OpenSpec.upto frameBackSpec)

/-- 'bowdlerlaw6.FrameTurns', WHERE WHAT IT READS IS OF BULK AT MOST 1048576: true; the input reads as it did. -/
def frameTurnsUptoRow : OpenClaim := { program := "ytofloedgclodnaadoor", sum := "c0ee282bacf85bc9da631001bb87e46774047e88ba4e36b7870c90f9ade93047", func := "bowdler/bowdlerlaw6.FrameTurns", spec := "frameTurns", inPlace := ["internal/bytealg.IndexByteString", "internal/bytealg.IndexString"], unfollowed := true, recurses := true, named := ["unicode/utf8.first", "unicode/utf8.acceptRanges", "internal/bytealg.MaxLen"], apart := false, laid := [("unicode/utf8.acceptRanges", laid_unicode_utf8_acceptRanges), ("unicode/utf8.first", laid_unicode_utf8_first)], narrowed := true }
def FrameTurnsUptoSaid : Prop := frameTurnsUptoRow.holds Tryd.pinned (OpenSpec.upto frameTurnsSpec)

end Rows
end Go.Proofs.YtofloedgclodnaaDoor
