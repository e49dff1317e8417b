/-
  NARROWER THAN 'FOR EVERY INPUT', by the rows' own cells (each row's printed sentence says how): VeilTells: laid · VeilTwice: laid · VeilSees: laid · VeilLines: laid · VeilLess: laid · VeilUnknowns: laid · VeilDivs: laid · VeilEach: laid.
  DERIVED. THE GIVEN ROWS OF THIS SEAT. 8 by the template 'for every input the law returns true; each argument reads behind the call as it read before'; 0 by the template 'total and deterministic' (their statements: YteeoohnkfdffnaaGreatDoorTotals.lean).
  GIVEN WITH THE SEED: the statements are not yours to turn. If you find one false, say at which input.
  Laid BY PROGRAM, IN A SANDBOX (cutbox-rows.mjs): the forced cells as the released guide's own fill.sh prints them over the translation 5b1caa3cc33fcc93… (all of the seat's roots in one cut). By AI agents, Wed Nov 11 2026. No macro, syntax, notation, axiom, sorry.
-/
import Derived.Test.YteeoohnkfdffnaaGreatDoorChecked
import GoSem.PinnedTables
import GoSem.Claim
import GoSem.ClaimJoined
import GoSem.ClaimMapViews
import Derived.JoinedTies
import Derived.KernelRfl
namespace Go.Proofs.YteeoohnkfdffnaaGreatDoor
/- THE CELL 'sum', in the pinned program and in every row, IS THE sha256 OF THE DUMP (.gsa) THAT YteeoohnkfdffnaaGreatDoorProg.lean LOADS. Nothing in Lean hashes anything: it is a label: what it is worth is what the hold of that sum in a sandbox is worth. -/
noncomputable def Tryz.pinned : Pinned := { name := "yteeoohnkfdffnaagreatdoor", sum := "5b1caa3cc33fcc935bf795c7a8440a06da21d98e996a3b86757b8468894933c3", checked := Tryz.checked }
namespace Rows
def none {H : Type} : Left H := { results := [], args := [] }

/- WHAT THE LISTED PACKAGE-LEVEL VARIABLES READ AS WHEN THE CALL BEGINS. Each datum BY PROGRAM (the guide's laid-datum.mjs) off the statement by which the dump's own 'gosem.cut.vars' lays the variable. In a bare row this is a premise. The card (YteeoohnkfdffnaaGreatDoorCards.lean) ties it to the program's text. -/
def laid_unicode_utf8_acceptRanges {H : Type} : DataW H := .agg [.agg [.lit (.int .u8 128), .lit (.int .u8 191)], .agg [.lit (.int .u8 160), .lit (.int .u8 191)], .agg [.lit (.int .u8 128), .lit (.int .u8 159)], .agg [.lit (.int .u8 144), .lit (.int .u8 191)], .agg [.lit (.int .u8 128), .lit (.int .u8 143)], .agg [.lit (.int .u8 0), .lit (.int .u8 0)], .agg [.lit (.int .u8 0), .lit (.int .u8 0)], .agg [.lit (.int .u8 0), .lit (.int .u8 0)], .agg [.lit (.int .u8 0), .lit (.int .u8 0)], .agg [.lit (.int .u8 0), .lit (.int .u8 0)], .agg [.lit (.int .u8 0), .lit (.int .u8 0)], .agg [.lit (.int .u8 0), .lit (.int .u8 0)], .agg [.lit (.int .u8 0), .lit (.int .u8 0)], .agg [.lit (.int .u8 0), .lit (.int .u8 0)], .agg [.lit (.int .u8 0), .lit (.int .u8 0)], .agg [.lit (.int .u8 0), .lit (.int .u8 0)]]
/-- One of Go's own tables, pinned by name: the form's constant. -/
def laid_unicode_utf8_first : DataW Unit := Go.Pinned.utf8First

/-- 'bowdlerlaw7.VeilTells': WHATEVER THE INPUT: true; the input reads as it did. -/
def veilTellsSpec : ChangeSpec := { name := "veilTells", fn := fun _ => fun
  | [d1, d2, d3, d4, d5, d6] => { results := [.lit (.bool true)], args := [d1, d2, d3, d4, d5, d6] }
  | _ => none }
def veilTellsRow : OpenClaim := { program := "yteeoohnkfdffnaagreatdoor", sum := "5b1caa3cc33fcc935bf795c7a8440a06da21d98e996a3b86757b8468894933c3", func := "bowdler/bowdlerlaw7.VeilTells", spec := "veilTells", inPlace := ["internal/abi.NoEscape", "internal/bytealg.CountString", "internal/bytealg.IndexByteString", "internal/bytealg.IndexString"], unfollowed := true, recurses := true, named := ["unicode/utf8.first", "unicode/utf8.acceptRanges", "internal/bytealg.MaxLen"], apart := false, laid := [("unicode/utf8.acceptRanges", laid_unicode_utf8_acceptRanges), ("unicode/utf8.first", laid_unicode_utf8_first)] }
def VeilTellsSaid : Prop := veilTellsRow.holds Tryz.pinned (OpenSpec.ofChange veilTellsSpec)

/-- ITS FALSE NEIGHBOUR: 'it returns false'. Refute it at one input. -/
def veilTellsWrong : ChangeSpec := { name := "veilTells", fn := fun _ => fun
  | [d1, d2, d3, d4, d5, d6] => { results := [.lit (.bool false)], args := [d1, d2, d3, d4, d5, d6] }
  | _ => none }
def VeilTellsWrongFalsely : Prop := veilTellsRow.holds Tryz.pinned (OpenSpec.ofChange veilTellsWrong)

/-- 'bowdlerlaw7.VeilTwice': WHATEVER THE INPUT: true; the input reads as it did. -/
def veilTwiceSpec : ChangeSpec := { name := "veilTwice", fn := fun _ => fun
  | [d1, d2, d3] => { results := [.lit (.bool true)], args := [d1, d2, d3] }
  | _ => none }
def veilTwiceRow : OpenClaim := { program := "yteeoohnkfdffnaagreatdoor", sum := "5b1caa3cc33fcc935bf795c7a8440a06da21d98e996a3b86757b8468894933c3", func := "bowdler/bowdlerlaw7.VeilTwice", spec := "veilTwice", inPlace := ["internal/abi.NoEscape", "internal/bytealg.CountString", "internal/bytealg.IndexByteString", "internal/bytealg.IndexString"], unfollowed := true, recurses := true, named := ["unicode/utf8.first", "unicode/utf8.acceptRanges", "internal/bytealg.MaxLen"], apart := false, laid := [("unicode/utf8.acceptRanges", laid_unicode_utf8_acceptRanges), ("unicode/utf8.first", laid_unicode_utf8_first)] }
def VeilTwiceSaid : Prop := veilTwiceRow.holds Tryz.pinned (OpenSpec.ofChange veilTwiceSpec)

/-- ITS FALSE NEIGHBOUR: 'it returns false'. Refute it at one input. -/
def veilTwiceWrong : ChangeSpec := { name := "veilTwice", fn := fun _ => fun
  | [d1, d2, d3] => { results := [.lit (.bool false)], args := [d1, d2, d3] }
  | _ => none }
def VeilTwiceWrongFalsely : Prop := veilTwiceRow.holds Tryz.pinned (OpenSpec.ofChange veilTwiceWrong)

/-- 'bowdlerlaw7.VeilSees': WHATEVER THE INPUT: true; the input reads as it did. -/
def veilSeesSpec : ChangeSpec := { name := "veilSees", fn := fun _ => fun
  | [d1, d2, d3] => { results := [.lit (.bool true)], args := [d1, d2, d3] }
  | _ => none }
def veilSeesRow : OpenClaim := { program := "yteeoohnkfdffnaagreatdoor", sum := "5b1caa3cc33fcc935bf795c7a8440a06da21d98e996a3b86757b8468894933c3", func := "bowdler/bowdlerlaw7.VeilSees", spec := "veilSees", inPlace := ["internal/abi.NoEscape", "internal/bytealg.CountString", "internal/bytealg.IndexByteString", "internal/bytealg.IndexString"], unfollowed := true, recurses := true, named := ["unicode/utf8.first", "unicode/utf8.acceptRanges", "internal/bytealg.MaxLen"], apart := false, laid := [("unicode/utf8.acceptRanges", laid_unicode_utf8_acceptRanges), ("unicode/utf8.first", laid_unicode_utf8_first)] }
def VeilSeesSaid : Prop := veilSeesRow.holds Tryz.pinned (OpenSpec.ofChange veilSeesSpec)

/-- ITS FALSE NEIGHBOUR: 'it returns false'. Refute it at one input. -/
def veilSeesWrong : ChangeSpec := { name := "veilSees", fn := fun _ => fun
  | [d1, d2, d3] => { results := [.lit (.bool false)], args := [d1, d2, d3] }
  | _ => none }
def VeilSeesWrongFalsely : Prop := veilSeesRow.holds Tryz.pinned (OpenSpec.ofChange veilSeesWrong)

/-- 'bowdlerlaw7.VeilLines': WHATEVER THE INPUT: true; the input reads as it did. -/
def veilLinesSpec : ChangeSpec := { name := "veilLines", fn := fun _ => fun
  | [d1, d2, d3] => { results := [.lit (.bool true)], args := [d1, d2, d3] }
  | _ => none }
def veilLinesRow : OpenClaim := { program := "yteeoohnkfdffnaagreatdoor", sum := "5b1caa3cc33fcc935bf795c7a8440a06da21d98e996a3b86757b8468894933c3", func := "bowdler/bowdlerlaw7.VeilLines", spec := "veilLines", inPlace := ["internal/abi.NoEscape", "internal/bytealg.CountString", "internal/bytealg.IndexByteString", "internal/bytealg.IndexString"], unfollowed := true, recurses := true, named := ["unicode/utf8.first", "unicode/utf8.acceptRanges", "internal/bytealg.MaxLen"], apart := false, laid := [("unicode/utf8.acceptRanges", laid_unicode_utf8_acceptRanges), ("unicode/utf8.first", laid_unicode_utf8_first)] }
def VeilLinesSaid : Prop := veilLinesRow.holds Tryz.pinned (OpenSpec.ofChange veilLinesSpec)

/-- ITS FALSE NEIGHBOUR: 'it returns false'. Refute it at one input. -/
def veilLinesWrong : ChangeSpec := { name := "veilLines", fn := fun _ => fun
  | [d1, d2, d3] => { results := [.lit (.bool false)], args := [d1, d2, d3] }
  | _ => none }
def VeilLinesWrongFalsely : Prop := veilLinesRow.holds Tryz.pinned (OpenSpec.ofChange veilLinesWrong)

/-- 'bowdlerlaw7.VeilLess': WHATEVER THE INPUT: true; the input reads as it did. -/
def veilLessSpec : ChangeSpec := { name := "veilLess", fn := fun _ => fun
  | [d1, d2] => { results := [.lit (.bool true)], args := [d1, d2] }
  | _ => none }
def veilLessRow : OpenClaim := { program := "yteeoohnkfdffnaagreatdoor", sum := "5b1caa3cc33fcc935bf795c7a8440a06da21d98e996a3b86757b8468894933c3", func := "bowdler/bowdlerlaw7.VeilLess", spec := "veilLess", inPlace := ["internal/abi.NoEscape", "internal/bytealg.CountString", "internal/bytealg.IndexByteString", "internal/bytealg.IndexString"], unfollowed := true, recurses := true, named := ["unicode/utf8.first", "unicode/utf8.acceptRanges", "internal/bytealg.MaxLen"], apart := false, laid := [("unicode/utf8.acceptRanges", laid_unicode_utf8_acceptRanges), ("unicode/utf8.first", laid_unicode_utf8_first)] }
def VeilLessSaid : Prop := veilLessRow.holds Tryz.pinned (OpenSpec.ofChange veilLessSpec)

/-- ITS FALSE NEIGHBOUR: 'it returns false'. Refute it at one input. -/
def veilLessWrong : ChangeSpec := { name := "veilLess", fn := fun _ => fun
  | [d1, d2] => { results := [.lit (.bool false)], args := [d1, d2] }
  | _ => none }
def VeilLessWrongFalsely : Prop := veilLessRow.holds Tryz.pinned (OpenSpec.ofChange veilLessWrong)

/-- 'bowdlerlaw7.VeilUnknowns': WHATEVER THE INPUT: true; the input reads as it did. -/
def veilUnknownsSpec : ChangeSpec := { name := "veilUnknowns", fn := fun _ => fun
  | [d1, d2] => { results := [.lit (.bool true)], args := [d1, d2] }
  | _ => none }
def veilUnknownsRow : OpenClaim := { program := "yteeoohnkfdffnaagreatdoor", sum := "5b1caa3cc33fcc935bf795c7a8440a06da21d98e996a3b86757b8468894933c3", func := "bowdler/bowdlerlaw7.VeilUnknowns", spec := "veilUnknowns", inPlace := ["internal/abi.NoEscape", "internal/bytealg.CountString", "internal/bytealg.IndexByteString", "internal/bytealg.IndexString"], unfollowed := true, recurses := true, named := ["unicode/utf8.first", "unicode/utf8.acceptRanges", "internal/bytealg.MaxLen"], apart := false, laid := [("unicode/utf8.acceptRanges", laid_unicode_utf8_acceptRanges), ("unicode/utf8.first", laid_unicode_utf8_first)] }
def VeilUnknownsSaid : Prop := veilUnknownsRow.holds Tryz.pinned (OpenSpec.ofChange veilUnknownsSpec)

/-- ITS FALSE NEIGHBOUR: 'it returns false'. Refute it at one input. -/
def veilUnknownsWrong : ChangeSpec := { name := "veilUnknowns", fn := fun _ => fun
  | [d1, d2] => { results := [.lit (.bool false)], args := [d1, d2] }
  | _ => none }
def VeilUnknownsWrongFalsely : Prop := veilUnknownsRow.holds Tryz.pinned (OpenSpec.ofChange veilUnknownsWrong)

/-- 'bowdlerlaw7.VeilDivs': WHATEVER THE INPUT: true; the input reads as it did. -/
def veilDivsSpec : ChangeSpec := { name := "veilDivs", fn := fun _ => fun
  | [d1, d2] => { results := [.lit (.bool true)], args := [d1, d2] }
  | _ => none }
def veilDivsRow : OpenClaim := { program := "yteeoohnkfdffnaagreatdoor", sum := "5b1caa3cc33fcc935bf795c7a8440a06da21d98e996a3b86757b8468894933c3", func := "bowdler/bowdlerlaw7.VeilDivs", spec := "veilDivs", inPlace := ["internal/abi.NoEscape", "internal/bytealg.CountString", "internal/bytealg.IndexByteString", "internal/bytealg.IndexString"], unfollowed := true, recurses := true, named := ["unicode/utf8.first", "unicode/utf8.acceptRanges", "internal/bytealg.MaxLen"], apart := false, laid := [("unicode/utf8.acceptRanges", laid_unicode_utf8_acceptRanges), ("unicode/utf8.first", laid_unicode_utf8_first)] }
def VeilDivsSaid : Prop := veilDivsRow.holds Tryz.pinned (OpenSpec.ofChange veilDivsSpec)

/-- ITS FALSE NEIGHBOUR: 'it returns false'. Refute it at one input. -/
def veilDivsWrong : ChangeSpec := { name := "veilDivs", fn := fun _ => fun
  | [d1, d2] => { results := [.lit (.bool false)], args := [d1, d2] }
  | _ => none }
def VeilDivsWrongFalsely : Prop := veilDivsRow.holds Tryz.pinned (OpenSpec.ofChange veilDivsWrong)

/-- 'bowdlerlaw7.VeilEach': WHATEVER THE INPUT: true; the input reads as it did. -/
def veilEachSpec : ChangeSpec := { name := "veilEach", fn := fun _ => fun
  | [d1, d2, d3, d4] => { results := [.lit (.bool true)], args := [d1, d2, d3, d4] }
  | _ => none }
def veilEachRow : OpenClaim := { program := "yteeoohnkfdffnaagreatdoor", sum := "5b1caa3cc33fcc935bf795c7a8440a06da21d98e996a3b86757b8468894933c3", func := "bowdler/bowdlerlaw7.VeilEach", spec := "veilEach", inPlace := ["internal/abi.NoEscape", "internal/bytealg.CountString", "internal/bytealg.IndexByteString", "internal/bytealg.IndexString"], unfollowed := true, recurses := true, named := ["unicode/utf8.first", "unicode/utf8.acceptRanges", "internal/bytealg.MaxLen"], apart := false, laid := [("unicode/utf8.acceptRanges", laid_unicode_utf8_acceptRanges), ("unicode/utf8.first", laid_unicode_utf8_first)] }
def VeilEachSaid : Prop := veilEachRow.holds Tryz.pinned (OpenSpec.ofChange veilEachSpec)

/-- ITS FALSE NEIGHBOUR: 'it returns false'. Refute it at one input. -/
def veilEachWrong : ChangeSpec := { name := "veilEach", fn := fun _ => fun
  | [d1, d2, d3, d4] => { results := [.lit (.bool false)], args := [d1, d2, d3, d4] }
  | _ => none }
def VeilEachWrongFalsely : Prop := veilEachRow.holds Tryz.pinned (OpenSpec.ofChange veilEachWrong)

/- THE SECOND FORM. 'bulk': how many values and letters a reading holds, each counted each time it is reached (what is shared counts as often as it is met; a slice's spare places count too). A statement '..UptoSaid' is the law's where the arguments, and the package variables that the reading takes, are together of bulk at most 1048576: NARROWER than '..Said'. Prove '..Said' where nothing that the law and all that it calls make is longer than what came in: it says more and counts as full. Else prove '..UptoSaid'. A law counts once. -/
mutual
def uptoBulk {H : Type} : DataW H → Nat
  | .lit (.string bytes) => bytes.length + 1
  | .lit _ => 1
  | .nil => 1
  | .ptr d => uptoBulk d + 1
  | .slice elems spare => uptoBulkAll elems + uptoBulkAll spare + 1
  | .agg parts => uptoBulkAll parts + 1
  | .iface _ d => uptoBulk d + 1
  | .map entries => uptoBulkEntries entries + 1
  | .held _ => 1
def uptoBulkAll {H : Type} : List (DataW H) → Nat
  | [] => 0
  | d :: r => uptoBulk d + uptoBulkAll r
def uptoBulkEntries {H : Type} : List (Lit × DataW H) → Nat
  | [] => 0
  | x :: r => uptoBulkEntry x + uptoBulkEntries r
def uptoBulkEntry {H : Type} : Lit × DataW H → Nat
  | (.string bytes, d) => bytes.length + uptoBulk d + 1
  | (_, d) => uptoBulk d + 1
 end
def uptoSmall : (H : Type) → List (DataW H) → Bool := fun _ ds => decide (uptoBulkAll ds ≤ 1048576)
def OpenSpec.upto (s : _root_.Go.ChangeSpec) : _root_.Go.OpenSpec := { _root_.Go.OpenSpec.ofChange s with cond := some uptoSmall }

/-- 'bowdlerlaw7.VeilTells', WHERE WHAT IT READS IS OF BULK AT MOST 1048576: true; the input reads as it did. -/
def veilTellsUptoRow : OpenClaim := { program := "yteeoohnkfdffnaagreatdoor", sum := "5b1caa3cc33fcc935bf795c7a8440a06da21d98e996a3b86757b8468894933c3", func := "bowdler/bowdlerlaw7.VeilTells", spec := "veilTells", inPlace := ["internal/abi.NoEscape", "internal/bytealg.CountString", "internal/bytealg.IndexByteString", "internal/bytealg.IndexString"], unfollowed := true, recurses := true, named := ["unicode/utf8.first", "unicode/utf8.acceptRanges", "internal/bytealg.MaxLen"], apart := false, laid := [("unicode/utf8.acceptRanges", laid_unicode_utf8_acceptRanges), ("unicode/utf8.first", laid_unicode_utf8_first)], narrowed := true }
def VeilTellsUptoSaid : Prop := veilTellsUptoRow.holds Tryz.pinned (OpenSpec.upto veilTellsSpec)

/-- 'bowdlerlaw7.VeilTwice', WHERE WHAT IT READS IS OF BULK AT MOST 1048576: true; the input reads as it did. -/
def veilTwiceUptoRow : OpenClaim := { program := "yteeoohnkfdffnaagreatdoor", sum := "5b1caa3cc33fcc935bf795c7a8440a06da21d98e996a3b86757b8468894933c3", func := "bowdler/bowdlerlaw7.VeilTwice", spec := "veilTwice", inPlace := ["internal/abi.NoEscape", "internal/bytealg.CountString", "internal/bytealg.IndexByteString", "internal/bytealg.IndexString"], unfollowed := true, recurses := true, named := ["unicode/utf8.first", "unicode/utf8.acceptRanges", "internal/bytealg.MaxLen"], apart := false, laid := [("unicode/utf8.acceptRanges", laid_unicode_utf8_acceptRanges), ("unicode/utf8.first", laid_unicode_utf8_first)], narrowed := true }
def VeilTwiceUptoSaid : Prop := veilTwiceUptoRow.holds Tryz.pinned (OpenSpec.upto veilTwiceSpec)

/-- 'bowdlerlaw7.VeilSees', WHERE WHAT IT READS IS OF BULK AT MOST 1048576: true; the input reads as it did. -/
def veilSeesUptoRow : OpenClaim := { program := "yteeoohnkfdffnaagreatdoor", sum := "5b1caa3cc33fcc935bf795c7a8440a06da21d98e996a3b86757b8468894933c3", func := "bowdler/bowdlerlaw7.VeilSees", spec := "veilSees", inPlace := ["internal/abi.NoEscape", "internal/bytealg.CountString", "internal/bytealg.IndexByteString", "internal/bytealg.IndexString"], unfollowed := true, recurses := true, named := ["unicode/utf8.first", "unicode/utf8.acceptRanges", "internal/bytealg.MaxLen"], apart := false, laid := [("unicode/utf8.acceptRanges", laid_unicode_utf8_acceptRanges), ("unicode/utf8.first", laid_unicode_utf8_first)], narrowed := true }
def VeilSeesUptoSaid : Prop := veilSeesUptoRow.holds Tryz.pinned (OpenSpec.upto veilSeesSpec)

/-- 'bowdlerlaw7.VeilLines', WHERE WHAT IT READS IS OF BULK AT MOST 1048576: true; the input reads as it did. -/
def veilLinesUptoRow : OpenClaim := { program := "yteeoohnkfdffnaagreatdoor", sum := "5b1caa3cc33fcc935bf795c7a8440a06da21d98e996a3b86757b8468894933c3", func := "bowdler/bowdlerlaw7.VeilLines", spec := "veilLines", inPlace := ["internal/abi.NoEscape", "internal/bytealg.CountString", "internal/bytealg.IndexByteString", "internal/bytealg.IndexString"], unfollowed := true, recurses := true, named := ["unicode/utf8.first", "unicode/utf8.acceptRanges", "internal/bytealg.MaxLen"], apart := false, laid := [("unicode/utf8.acceptRanges", laid_unicode_utf8_acceptRanges), ("unicode/utf8.first", laid_unicode_utf8_first)], narrowed := true }
def VeilLinesUptoSaid : Prop := veilLinesUptoRow.holds Tryz.pinned (OpenSpec.upto veilLinesSpec)

/-- 'bowdlerlaw7.VeilLess', WHERE WHAT IT READS IS OF BULK AT MOST 1048576: true; the input reads as it did. -/
def veilLessUptoRow : OpenClaim := { program := "yteeoohnkfdffnaagreatdoor", sum := "5b1caa3cc33fcc935bf795c7a8440a06da21d98e996a3b86757b8468894933c3", func := "bowdler/bowdlerlaw7.VeilLess", spec := "veilLess", inPlace := ["internal/abi.NoEscape", "internal/bytealg.CountString", "internal/bytealg.IndexByteString", "internal/bytealg.IndexString"], unfollowed := true, recurses := true, named := ["unicode/utf8.first", "unicode/utf8.acceptRanges", "internal/bytealg.MaxLen"], apart := false, laid := [("unicode/utf8.acceptRanges", laid_unicode_utf8_acceptRanges), ("unicode/utf8.first", laid_unicode_utf8_first)], narrowed := true }
def VeilLessUptoSaid : Prop := veilLessUptoRow.holds Tryz.pinned (OpenSpec.upto veilLessSpec)

/-- 'bowdlerlaw7.VeilUnknowns', WHERE WHAT IT READS IS OF BULK AT MOST 1048576: true; the input reads as it did. -/
def veilUnknownsUptoRow : OpenClaim := { program := "yteeoohnkfdffnaagreatdoor", sum := "5b1caa3cc33fcc935bf795c7a8440a06da21d98e996a3b86757b8468894933c3", func := "bowdler/bowdlerlaw7.VeilUnknowns", spec := "veilUnknowns", inPlace := ["internal/abi.NoEscape", "internal/bytealg.CountString", "internal/bytealg.IndexByteString", "internal/bytealg.IndexString"], unfollowed := true, recurses := true, named := ["unicode/utf8.first", "unicode/utf8.acceptRanges", "internal/bytealg.MaxLen"], apart := false, laid := [("unicode/utf8.acceptRanges", laid_unicode_utf8_acceptRanges), ("unicode/utf8.first", laid_unicode_utf8_first)], narrowed := true }
def VeilUnknownsUptoSaid : Prop := veilUnknownsUptoRow.holds Tryz.pinned (OpenSpec.upto veilUnknownsSpec)

/-- 'bowdlerlaw7.VeilDivs', WHERE WHAT IT READS IS OF BULK AT MOST 1048576: true; the input reads as it did. -/
def veilDivsUptoRow : OpenClaim := { program := "yteeoohnkfdffnaagreatdoor", sum := "5b1caa3cc33fcc935bf795c7a8440a06da21d98e996a3b86757b8468894933c3", func := "bowdler/bowdlerlaw7.VeilDivs", spec := "veilDivs", inPlace := ["internal/abi.NoEscape", "internal/bytealg.CountString", "internal/bytealg.IndexByteString", "internal/bytealg.IndexString"], unfollowed := true, recurses := true, named := ["unicode/utf8.first", "unicode/utf8.acceptRanges", "internal/bytealg.MaxLen"], apart := false, laid := [("unicode/utf8.acceptRanges", laid_unicode_utf8_acceptRanges), ("unicode/utf8.first", laid_unicode_utf8_first)], narrowed := true }
def VeilDivsUptoSaid : Prop := veilDivsUptoRow.holds Tryz.pinned (OpenSpec.upto veilDivsSpec)

/-- 'bowdlerlaw7.VeilEach', WHERE WHAT IT READS IS OF BULK AT MOST 1048576: true; the input reads as it did. -/
def veilEachUptoRow : OpenClaim := { program := "yteeoohnkfdffnaagreatdoor", sum := "5b1caa3cc33fcc935bf795c7a8440a06da21d98e996a3b86757b8468894933c3", func := "bowdler/bowdlerlaw7.VeilEach", spec := "veilEach", inPlace := ["internal/abi.NoEscape", "internal/bytealg.CountString", "internal/bytealg.IndexByteString", "internal/bytealg.IndexString"], unfollowed := true, recurses := true, named := ["unicode/utf8.first", "unicode/utf8.acceptRanges", "internal/bytealg.MaxLen"], apart := false, laid := [("unicode/utf8.acceptRanges", laid_unicode_utf8_acceptRanges), ("unicode/utf8.first", laid_unicode_utf8_first)], narrowed := true }
def VeilEachUptoSaid : Prop := veilEachUptoRow.holds Tryz.pinned (OpenSpec.upto veilEachSpec)

end Rows
end Go.Proofs.YteeoohnkfdffnaaGreatDoor
