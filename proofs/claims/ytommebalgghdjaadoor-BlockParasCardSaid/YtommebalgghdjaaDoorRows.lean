/-
  NARROWER THAN 'FOR EVERY INPUT', by the rows' own cells (each row's printed sentence says how): BlockRight: laid · BlockQuotes: laid · BlockBlanks: laid · BlockCodes: laid · BlockParas: laid · BlockLists: laid · BlockDeep: laid · BlockUnder: laid · BlockKinds: laid · BlockApart: laid · BlockRaws: laid · BlockIndents: laid.
  DERIVED. THE GIVEN ROWS OF THIS SEAT. 12 by the template 'for every input the law returns true; each argument reads behind the call as it read before'; 0 by the template 'total and deterministic' (their statements: YtommebalgghdjaaDoorTotals.lean).
  GIVEN WITH THE SEED: the statements are not yours to turn. If you find one false, say at which input.
  Laid BY PROGRAM, IN A SANDBOX (cutbox-rows.mjs): the forced cells as the released guide's own fill.sh prints them over the translation a29cf65c9e556aa1… (all of the seat's roots in one cut). By AI agents, Wed Nov 11 2026. No macro, syntax, notation, axiom, sorry.
-/
import Derived.Test.YtommebalgghdjaaDoorChecked
import GoSem.PinnedTables
import GoSem.Claim
import GoSem.ClaimJoined
import GoSem.ClaimMapViews
import Derived.JoinedTies
import Derived.KernelRfl
namespace Go.Proofs.YtommebalgghdjaaDoor
/- THE CELL 'sum', in the pinned program and in every row, IS THE sha256 OF THE DUMP (.gsa) THAT YtommebalgghdjaaDoorProg.lean LOADS. Nothing in Lean hashes anything: it is a label: what it is worth is what the hold of that sum in a sandbox is worth. -/
noncomputable def Tryd.pinned : Pinned := { name := "ytommebalgghdjaadoor", sum := "a29cf65c9e556aa133d8548b497c6152d7f809e2087475d9ace458e946b8cdc2", checked := Tryd.checked }
namespace Rows
def none {H : Type} : Left H := { results := [], args := [] }

/- WHAT THE LISTED PACKAGE-LEVEL VARIABLES READ AS WHEN THE CALL BEGINS. Each datum BY PROGRAM (the guide's laid-datum.mjs) off the statement by which the dump's own 'gosem.cut.vars' lays the variable. In a bare row this is a premise. The card (YtommebalgghdjaaDoorCards.lean) ties it to the program's text. -/
def laid_unicode_utf8_acceptRanges {H : Type} : DataW H := .agg [.agg [.lit (.int .u8 128), .lit (.int .u8 191)], .agg [.lit (.int .u8 160), .lit (.int .u8 191)], .agg [.lit (.int .u8 128), .lit (.int .u8 159)], .agg [.lit (.int .u8 144), .lit (.int .u8 191)], .agg [.lit (.int .u8 128), .lit (.int .u8 143)], .agg [.lit (.int .u8 0), .lit (.int .u8 0)], .agg [.lit (.int .u8 0), .lit (.int .u8 0)], .agg [.lit (.int .u8 0), .lit (.int .u8 0)], .agg [.lit (.int .u8 0), .lit (.int .u8 0)], .agg [.lit (.int .u8 0), .lit (.int .u8 0)], .agg [.lit (.int .u8 0), .lit (.int .u8 0)], .agg [.lit (.int .u8 0), .lit (.int .u8 0)], .agg [.lit (.int .u8 0), .lit (.int .u8 0)], .agg [.lit (.int .u8 0), .lit (.int .u8 0)], .agg [.lit (.int .u8 0), .lit (.int .u8 0)], .agg [.lit (.int .u8 0), .lit (.int .u8 0)]]
/-- One of Go's own tables, pinned by name: the form's constant. -/
def laid_unicode_utf8_first : DataW Unit := Go.Pinned.utf8First

/-- 'bowdlerlaw9.BlockRight': WHATEVER THE INPUT: true; the input reads as it did. -/
def blockRightSpec : ChangeSpec := { name := "blockRight", fn := fun _ => fun
  | [d] => { results := [.lit (.bool true)], args := [d] }
  | _ => none }
def blockRightRow : OpenClaim := { program := "ytommebalgghdjaadoor", sum := "a29cf65c9e556aa133d8548b497c6152d7f809e2087475d9ace458e946b8cdc2", func := "bowdler/bowdlerlaw9.BlockRight", spec := "blockRight", inPlace := ["internal/abi.NoEscape", "internal/bytealg.MakeNoZero", "internal/bytealg.IndexByteString", "internal/bytealg.IndexString", "internal/bytealg.CountString"], recurses := true, named := ["unicode/utf8.first", "unicode/utf8.acceptRanges", "internal/bytealg.MaxLen"], apart := false, laid := [("unicode/utf8.acceptRanges", laid_unicode_utf8_acceptRanges), ("unicode/utf8.first", laid_unicode_utf8_first)] }
def BlockRightSaid : Prop := blockRightRow.holds Tryd.pinned (OpenSpec.ofChange blockRightSpec)

/-- ITS FALSE NEIGHBOUR: 'it returns false'. Refute it at one input. -/
def blockRightWrong : ChangeSpec := { name := "blockRight", fn := fun _ => fun
  | [d] => { results := [.lit (.bool false)], args := [d] }
  | _ => none }
def BlockRightWrongFalsely : Prop := blockRightRow.holds Tryd.pinned (OpenSpec.ofChange blockRightWrong)

/-- 'bowdlerlaw9.BlockQuotes': WHATEVER THE INPUT: true; the input reads as it did. -/
def blockQuotesSpec : ChangeSpec := { name := "blockQuotes", fn := fun _ => fun
  | [d] => { results := [.lit (.bool true)], args := [d] }
  | _ => none }
def blockQuotesRow : OpenClaim := { program := "ytommebalgghdjaadoor", sum := "a29cf65c9e556aa133d8548b497c6152d7f809e2087475d9ace458e946b8cdc2", func := "bowdler/bowdlerlaw9.BlockQuotes", spec := "blockQuotes", inPlace := ["internal/abi.NoEscape", "internal/bytealg.MakeNoZero", "internal/bytealg.IndexByteString", "internal/bytealg.IndexString", "internal/bytealg.CountString"], recurses := true, named := ["unicode/utf8.first", "unicode/utf8.acceptRanges", "internal/bytealg.MaxLen"], apart := false, laid := [("unicode/utf8.acceptRanges", laid_unicode_utf8_acceptRanges), ("unicode/utf8.first", laid_unicode_utf8_first)] }
def BlockQuotesSaid : Prop := blockQuotesRow.holds Tryd.pinned (OpenSpec.ofChange blockQuotesSpec)

/-- ITS FALSE NEIGHBOUR: 'it returns false'. Refute it at one input. -/
def blockQuotesWrong : ChangeSpec := { name := "blockQuotes", fn := fun _ => fun
  | [d] => { results := [.lit (.bool false)], args := [d] }
  | _ => none }
def BlockQuotesWrongFalsely : Prop := blockQuotesRow.holds Tryd.pinned (OpenSpec.ofChange blockQuotesWrong)

/-- 'bowdlerlaw9.BlockBlanks': WHATEVER THE INPUT: true; the input reads as it did. -/
def blockBlanksSpec : ChangeSpec := { name := "blockBlanks", fn := fun _ => fun
  | [d1, d2, d3] => { results := [.lit (.bool true)], args := [d1, d2, d3] }
  | _ => none }
def blockBlanksRow : OpenClaim := { program := "ytommebalgghdjaadoor", sum := "a29cf65c9e556aa133d8548b497c6152d7f809e2087475d9ace458e946b8cdc2", func := "bowdler/bowdlerlaw9.BlockBlanks", spec := "blockBlanks", inPlace := ["internal/abi.NoEscape", "internal/bytealg.MakeNoZero", "internal/bytealg.IndexByteString", "internal/bytealg.IndexString", "internal/bytealg.CountString"], recurses := true, named := ["unicode/utf8.first", "unicode/utf8.acceptRanges", "internal/bytealg.MaxLen"], apart := false, laid := [("unicode/utf8.acceptRanges", laid_unicode_utf8_acceptRanges), ("unicode/utf8.first", laid_unicode_utf8_first)] }
def BlockBlanksSaid : Prop := blockBlanksRow.holds Tryd.pinned (OpenSpec.ofChange blockBlanksSpec)

/-- ITS FALSE NEIGHBOUR: 'it returns false'. Refute it at one input. -/
def blockBlanksWrong : ChangeSpec := { name := "blockBlanks", fn := fun _ => fun
  | [d1, d2, d3] => { results := [.lit (.bool false)], args := [d1, d2, d3] }
  | _ => none }
def BlockBlanksWrongFalsely : Prop := blockBlanksRow.holds Tryd.pinned (OpenSpec.ofChange blockBlanksWrong)

/-- 'bowdlerlaw9.BlockCodes': WHATEVER THE INPUT: true; the input reads as it did. -/
def blockCodesSpec : ChangeSpec := { name := "blockCodes", fn := fun _ => fun
  | [d1, d2] => { results := [.lit (.bool true)], args := [d1, d2] }
  | _ => none }
def blockCodesRow : OpenClaim := { program := "ytommebalgghdjaadoor", sum := "a29cf65c9e556aa133d8548b497c6152d7f809e2087475d9ace458e946b8cdc2", func := "bowdler/bowdlerlaw9.BlockCodes", spec := "blockCodes", inPlace := ["internal/abi.NoEscape", "internal/bytealg.MakeNoZero", "internal/bytealg.IndexByteString", "internal/bytealg.IndexString", "internal/bytealg.CountString"], recurses := true, named := ["unicode/utf8.first", "unicode/utf8.acceptRanges", "internal/bytealg.MaxLen"], apart := false, laid := [("unicode/utf8.acceptRanges", laid_unicode_utf8_acceptRanges), ("unicode/utf8.first", laid_unicode_utf8_first)] }
def BlockCodesSaid : Prop := blockCodesRow.holds Tryd.pinned (OpenSpec.ofChange blockCodesSpec)

/-- ITS FALSE NEIGHBOUR: 'it returns false'. Refute it at one input. -/
def blockCodesWrong : ChangeSpec := { name := "blockCodes", fn := fun _ => fun
  | [d1, d2] => { results := [.lit (.bool false)], args := [d1, d2] }
  | _ => none }
def BlockCodesWrongFalsely : Prop := blockCodesRow.holds Tryd.pinned (OpenSpec.ofChange blockCodesWrong)

/-- 'bowdlerlaw9.BlockParas': WHATEVER THE INPUT: true; the input reads as it did. -/
def blockParasSpec : ChangeSpec := { name := "blockParas", fn := fun _ => fun
  | [d1, d2] => { results := [.lit (.bool true)], args := [d1, d2] }
  | _ => none }
def blockParasRow : OpenClaim := { program := "ytommebalgghdjaadoor", sum := "a29cf65c9e556aa133d8548b497c6152d7f809e2087475d9ace458e946b8cdc2", func := "bowdler/bowdlerlaw9.BlockParas", spec := "blockParas", inPlace := ["internal/abi.NoEscape", "internal/bytealg.MakeNoZero", "internal/bytealg.IndexByteString", "internal/bytealg.IndexString", "internal/bytealg.CountString"], unfollowed := true, recurses := true, named := ["unicode/utf8.first", "unicode/utf8.acceptRanges", "internal/bytealg.MaxLen"], apart := false, laid := [("unicode/utf8.acceptRanges", laid_unicode_utf8_acceptRanges), ("unicode/utf8.first", laid_unicode_utf8_first)] }
def BlockParasSaid : Prop := blockParasRow.holds Tryd.pinned (OpenSpec.ofChange blockParasSpec)

/-- ITS FALSE NEIGHBOUR: 'it returns false'. Refute it at one input. -/
def blockParasWrong : ChangeSpec := { name := "blockParas", fn := fun _ => fun
  | [d1, d2] => { results := [.lit (.bool false)], args := [d1, d2] }
  | _ => none }
def BlockParasWrongFalsely : Prop := blockParasRow.holds Tryd.pinned (OpenSpec.ofChange blockParasWrong)

/-- 'bowdlerlaw9.BlockLists': WHATEVER THE INPUT: true; the input reads as it did. -/
def blockListsSpec : ChangeSpec := { name := "blockLists", fn := fun _ => fun
  | [d1, d2, d3, d4] => { results := [.lit (.bool true)], args := [d1, d2, d3, d4] }
  | _ => none }
def blockListsRow : OpenClaim := { program := "ytommebalgghdjaadoor", sum := "a29cf65c9e556aa133d8548b497c6152d7f809e2087475d9ace458e946b8cdc2", func := "bowdler/bowdlerlaw9.BlockLists", spec := "blockLists", inPlace := ["internal/abi.NoEscape", "internal/bytealg.MakeNoZero", "internal/bytealg.IndexByteString", "internal/bytealg.IndexString", "internal/bytealg.CountString"], recurses := true, named := ["unicode/utf8.first", "unicode/utf8.acceptRanges", "internal/bytealg.MaxLen"], apart := false, laid := [("unicode/utf8.acceptRanges", laid_unicode_utf8_acceptRanges), ("unicode/utf8.first", laid_unicode_utf8_first)] }
def BlockListsSaid : Prop := blockListsRow.holds Tryd.pinned (OpenSpec.ofChange blockListsSpec)

/-- ITS FALSE NEIGHBOUR: 'it returns false'. Refute it at one input. -/
def blockListsWrong : ChangeSpec := { name := "blockLists", fn := fun _ => fun
  | [d1, d2, d3, d4] => { results := [.lit (.bool false)], args := [d1, d2, d3, d4] }
  | _ => none }
def BlockListsWrongFalsely : Prop := blockListsRow.holds Tryd.pinned (OpenSpec.ofChange blockListsWrong)

/-- 'bowdlerlaw9.BlockDeep': WHATEVER THE INPUT: true; the input reads as it did. -/
def blockDeepSpec : ChangeSpec := { name := "blockDeep", fn := fun _ => fun
  | [d] => { results := [.lit (.bool true)], args := [d] }
  | _ => none }
def blockDeepRow : OpenClaim := { program := "ytommebalgghdjaadoor", sum := "a29cf65c9e556aa133d8548b497c6152d7f809e2087475d9ace458e946b8cdc2", func := "bowdler/bowdlerlaw9.BlockDeep", spec := "blockDeep", inPlace := ["internal/abi.NoEscape", "internal/bytealg.MakeNoZero", "internal/bytealg.IndexByteString", "internal/bytealg.IndexString", "internal/bytealg.CountString"], recurses := true, named := ["unicode/utf8.first", "unicode/utf8.acceptRanges", "internal/bytealg.MaxLen"], apart := false, laid := [("unicode/utf8.acceptRanges", laid_unicode_utf8_acceptRanges), ("unicode/utf8.first", laid_unicode_utf8_first)] }
def BlockDeepSaid : Prop := blockDeepRow.holds Tryd.pinned (OpenSpec.ofChange blockDeepSpec)

/-- ITS FALSE NEIGHBOUR: 'it returns false'. Refute it at one input. -/
def blockDeepWrong : ChangeSpec := { name := "blockDeep", fn := fun _ => fun
  | [d] => { results := [.lit (.bool false)], args := [d] }
  | _ => none }
def BlockDeepWrongFalsely : Prop := blockDeepRow.holds Tryd.pinned (OpenSpec.ofChange blockDeepWrong)

/-- 'bowdlerlaw9.BlockUnder': WHATEVER THE INPUT: true; the input reads as it did. -/
def blockUnderSpec : ChangeSpec := { name := "blockUnder", fn := fun _ => fun
  | [d1, d2, d3] => { results := [.lit (.bool true)], args := [d1, d2, d3] }
  | _ => none }
def blockUnderRow : OpenClaim := { program := "ytommebalgghdjaadoor", sum := "a29cf65c9e556aa133d8548b497c6152d7f809e2087475d9ace458e946b8cdc2", func := "bowdler/bowdlerlaw9.BlockUnder", spec := "blockUnder", inPlace := ["internal/abi.NoEscape", "internal/bytealg.MakeNoZero", "internal/bytealg.IndexByteString", "internal/bytealg.IndexString", "internal/bytealg.CountString"], recurses := true, named := ["unicode/utf8.first", "unicode/utf8.acceptRanges", "internal/bytealg.MaxLen"], apart := false, laid := [("unicode/utf8.acceptRanges", laid_unicode_utf8_acceptRanges), ("unicode/utf8.first", laid_unicode_utf8_first)] }
def BlockUnderSaid : Prop := blockUnderRow.holds Tryd.pinned (OpenSpec.ofChange blockUnderSpec)

/-- ITS FALSE NEIGHBOUR: 'it returns false'. Refute it at one input. -/
def blockUnderWrong : ChangeSpec := { name := "blockUnder", fn := fun _ => fun
  | [d1, d2, d3] => { results := [.lit (.bool false)], args := [d1, d2, d3] }
  | _ => none }
def BlockUnderWrongFalsely : Prop := blockUnderRow.holds Tryd.pinned (OpenSpec.ofChange blockUnderWrong)

/-- 'bowdlerlaw9.BlockKinds': WHATEVER THE INPUT: true; the input reads as it did. -/
def blockKindsSpec : ChangeSpec := { name := "blockKinds", fn := fun _ => fun
  | [d] => { results := [.lit (.bool true)], args := [d] }
  | _ => none }
def blockKindsRow : OpenClaim := { program := "ytommebalgghdjaadoor", sum := "a29cf65c9e556aa133d8548b497c6152d7f809e2087475d9ace458e946b8cdc2", func := "bowdler/bowdlerlaw9.BlockKinds", spec := "blockKinds", inPlace := ["internal/abi.NoEscape", "internal/bytealg.MakeNoZero", "internal/bytealg.IndexByteString", "internal/bytealg.IndexString", "internal/bytealg.CountString"], recurses := true, named := ["unicode/utf8.first", "unicode/utf8.acceptRanges", "internal/bytealg.MaxLen"], apart := false, laid := [("unicode/utf8.acceptRanges", laid_unicode_utf8_acceptRanges), ("unicode/utf8.first", laid_unicode_utf8_first)] }
def BlockKindsSaid : Prop := blockKindsRow.holds Tryd.pinned (OpenSpec.ofChange blockKindsSpec)

/-- ITS FALSE NEIGHBOUR: 'it returns false'. Refute it at one input. -/
def blockKindsWrong : ChangeSpec := { name := "blockKinds", fn := fun _ => fun
  | [d] => { results := [.lit (.bool false)], args := [d] }
  | _ => none }
def BlockKindsWrongFalsely : Prop := blockKindsRow.holds Tryd.pinned (OpenSpec.ofChange blockKindsWrong)

/-- 'bowdlerlaw9.BlockApart': WHATEVER THE INPUT: true; the input reads as it did. -/
def blockApartSpec : ChangeSpec := { name := "blockApart", fn := fun _ => fun
  | [d1, d2] => { results := [.lit (.bool true)], args := [d1, d2] }
  | _ => none }
def blockApartRow : OpenClaim := { program := "ytommebalgghdjaadoor", sum := "a29cf65c9e556aa133d8548b497c6152d7f809e2087475d9ace458e946b8cdc2", func := "bowdler/bowdlerlaw9.BlockApart", spec := "blockApart", inPlace := ["internal/abi.NoEscape", "internal/bytealg.MakeNoZero", "internal/bytealg.IndexByteString", "internal/bytealg.IndexString", "internal/bytealg.CountString"], recurses := true, named := ["unicode/utf8.first", "unicode/utf8.acceptRanges", "internal/bytealg.MaxLen"], apart := false, laid := [("unicode/utf8.acceptRanges", laid_unicode_utf8_acceptRanges), ("unicode/utf8.first", laid_unicode_utf8_first)] }
def BlockApartSaid : Prop := blockApartRow.holds Tryd.pinned (OpenSpec.ofChange blockApartSpec)

/-- ITS FALSE NEIGHBOUR: 'it returns false'. Refute it at one input. -/
def blockApartWrong : ChangeSpec := { name := "blockApart", fn := fun _ => fun
  | [d1, d2] => { results := [.lit (.bool false)], args := [d1, d2] }
  | _ => none }
def BlockApartWrongFalsely : Prop := blockApartRow.holds Tryd.pinned (OpenSpec.ofChange blockApartWrong)

/-- 'bowdlerlaw9.BlockRaws': WHATEVER THE INPUT: true; the input reads as it did. -/
def blockRawsSpec : ChangeSpec := { name := "blockRaws", fn := fun _ => fun
  | [d] => { results := [.lit (.bool true)], args := [d] }
  | _ => none }
def blockRawsRow : OpenClaim := { program := "ytommebalgghdjaadoor", sum := "a29cf65c9e556aa133d8548b497c6152d7f809e2087475d9ace458e946b8cdc2", func := "bowdler/bowdlerlaw9.BlockRaws", spec := "blockRaws", inPlace := ["internal/abi.NoEscape", "internal/bytealg.MakeNoZero", "internal/bytealg.IndexByteString", "internal/bytealg.IndexString", "internal/bytealg.CountString"], recurses := true, named := ["unicode/utf8.first", "unicode/utf8.acceptRanges", "internal/bytealg.MaxLen"], apart := false, laid := [("unicode/utf8.acceptRanges", laid_unicode_utf8_acceptRanges), ("unicode/utf8.first", laid_unicode_utf8_first)] }
def BlockRawsSaid : Prop := blockRawsRow.holds Tryd.pinned (OpenSpec.ofChange blockRawsSpec)

/-- ITS FALSE NEIGHBOUR: 'it returns false'. Refute it at one input. -/
def blockRawsWrong : ChangeSpec := { name := "blockRaws", fn := fun _ => fun
  | [d] => { results := [.lit (.bool false)], args := [d] }
  | _ => none }
def BlockRawsWrongFalsely : Prop := blockRawsRow.holds Tryd.pinned (OpenSpec.ofChange blockRawsWrong)

/-- 'bowdlerlaw9.BlockIndents': WHATEVER THE INPUT: true; the input reads as it did. -/
def blockIndentsSpec : ChangeSpec := { name := "blockIndents", fn := fun _ => fun
  | [d] => { results := [.lit (.bool true)], args := [d] }
  | _ => none }
def blockIndentsRow : OpenClaim := { program := "ytommebalgghdjaadoor", sum := "a29cf65c9e556aa133d8548b497c6152d7f809e2087475d9ace458e946b8cdc2", func := "bowdler/bowdlerlaw9.BlockIndents", spec := "blockIndents", inPlace := ["internal/abi.NoEscape", "internal/bytealg.MakeNoZero", "internal/bytealg.IndexByteString", "internal/bytealg.IndexString", "internal/bytealg.CountString"], recurses := true, named := ["unicode/utf8.first", "unicode/utf8.acceptRanges", "internal/bytealg.MaxLen"], apart := false, laid := [("unicode/utf8.acceptRanges", laid_unicode_utf8_acceptRanges), ("unicode/utf8.first", laid_unicode_utf8_first)] }
def BlockIndentsSaid : Prop := blockIndentsRow.holds Tryd.pinned (OpenSpec.ofChange blockIndentsSpec)

/-- ITS FALSE NEIGHBOUR: 'it returns false'. Refute it at one input. -/
def blockIndentsWrong : ChangeSpec := { name := "blockIndents", fn := fun _ => fun
  | [d] => { results := [.lit (.bool false)], args := [d] }
  | _ => none }
def BlockIndentsWrongFalsely : Prop := blockIndentsRow.holds Tryd.pinned (OpenSpec.ofChange blockIndentsWrong)

/- THE SECOND FORM. 'bulk': how many values and letters a reading holds, each counted each time it is reached (what is shared counts as often as it is met; a slice's spare places count too). A statement '..UptoSaid' is the law's where the arguments, and the package variables that the reading takes, are together of bulk at most 1048576: NARROWER than '..Said'. Prove '..Said' where nothing that the law and all that it calls make is longer than what came in: it says more and counts as full. Else prove '..UptoSaid'. A law counts once. -/
mutual
def uptoBulk {H : Type} : DataW H → Nat
  | .lit (.string bytes) => bytes.length + 1
  | .lit _ => 1
  | .nil => 1
  | .ptr d => uptoBulk d + 1
  | .slice elems spare => uptoBulkAll elems + uptoBulkAll spare + 1
  | .agg parts => uptoBulkAll parts + 1
  | .iface _ d => uptoBulk d + 1
  | .map entries => uptoBulkEntries entries + 1
  | .held _ => 1
def uptoBulkAll {H : Type} : List (DataW H) → Nat
  | [] => 0
  | d :: r => uptoBulk d + uptoBulkAll r
def uptoBulkEntries {H : Type} : List (Lit × DataW H) → Nat
  | [] => 0
  | x :: r => uptoBulkEntry x + uptoBulkEntries r
def uptoBulkEntry {H : Type} : Lit × DataW H → Nat
  | (.string bytes, d) => bytes.length + uptoBulk d + 1
  | (_, d) => uptoBulk d + 1
 end
def uptoSmall : (H : Type) → List (DataW H) → Bool := fun _ ds => decide (uptoBulkAll ds ≤ 1048576)
def OpenSpec.upto (s : _root_.Go.ChangeSpec) : _root_.Go.OpenSpec := { _root_.Go.OpenSpec.ofChange s with cond := some uptoSmall }

/-- 'bowdlerlaw9.BlockRight', WHERE WHAT IT READS IS OF BULK AT MOST 1048576: true; the input reads as it did. -/
def blockRightUptoRow : OpenClaim := { program := "ytommebalgghdjaadoor", sum := "a29cf65c9e556aa133d8548b497c6152d7f809e2087475d9ace458e946b8cdc2", func := "bowdler/bowdlerlaw9.BlockRight", spec := "blockRight", inPlace := ["internal/abi.NoEscape", "internal/bytealg.MakeNoZero", "internal/bytealg.IndexByteString", "internal/bytealg.IndexString", "internal/bytealg.CountString"], recurses := true, named := ["unicode/utf8.first", "unicode/utf8.acceptRanges", "internal/bytealg.MaxLen"], apart := false, laid := [("unicode/utf8.acceptRanges", laid_unicode_utf8_acceptRanges), ("unicode/utf8.first", laid_unicode_utf8_first)], narrowed := true }
def BlockRightUptoSaid : Prop := blockRightUptoRow.holds Tryd.pinned (OpenSpec.upto blockRightSpec)

/-- 'bowdlerlaw9.BlockQuotes', WHERE WHAT IT READS IS OF BULK AT MOST 1048576: true; the input reads as it did. -/
def blockQuotesUptoRow : OpenClaim := { program := "ytommebalgghdjaadoor", sum := "a29cf65c9e556aa133d8548b497c6152d7f809e2087475d9ace458e946b8cdc2", func := "bowdler/bowdlerlaw9.BlockQuotes", spec := "blockQuotes", inPlace := ["internal/abi.NoEscape", "internal/bytealg.MakeNoZero", "internal/bytealg.IndexByteString", "internal/bytealg.IndexString", "internal/bytealg.CountString"], recurses := true, named := ["unicode/utf8.first", "unicode/utf8.acceptRanges", "internal/bytealg.MaxLen"], apart := false, laid := [("unicode/utf8.acceptRanges", laid_unicode_utf8_acceptRanges), ("unicode/utf8.first", laid_unicode_utf8_first)], narrowed := true }
def BlockQuotesUptoSaid : Prop := blockQuotesUptoRow.holds Tryd.pinned (OpenSpec.upto blockQuotesSpec)

/-- 'bowdlerlaw9.BlockBlanks', WHERE WHAT IT READS IS OF BULK AT MOST 1048576: true; the input reads as it did. -/
def blockBlanksUptoRow : OpenClaim := { program := "ytommebalgghdjaadoor", sum := "a29cf65c9e556aa133d8548b497c6152d7f809e2087475d9ace458e946b8cdc2", func := "bowdler/bowdlerlaw9.BlockBlanks", spec := "blockBlanks", inPlace := ["internal/abi.NoEscape", "internal/bytealg.MakeNoZero", "internal/bytealg.IndexByteString", "internal/bytealg.IndexString", "internal/bytealg.CountString"], recurses := true, named := ["unicode/utf8.first", "unicode/utf8.acceptRanges", "internal/bytealg.MaxLen"], apart := false, laid := [("unicode/utf8.acceptRanges", laid_unicode_utf8_acceptRanges), ("unicode/utf8.first", laid_unicode_utf8_first)], narrowed := true }
def BlockBlanksUptoSaid : Prop := blockBlanksUptoRow.holds Tryd.pinned (OpenSpec.upto blockBlanksSpec)

/-- 'bowdlerlaw9.BlockCodes', WHERE WHAT IT READS IS OF BULK AT MOST 1048576: true; the input reads as it did. -/
def blockCodesUptoRow : OpenClaim := { program := "ytommebalgghdjaadoor", sum := "a29cf65c9e556aa133d8548b497c6152d7f809e2087475d9ace458e946b8cdc2", func := "bowdler/bowdlerlaw9.BlockCodes", spec := "blockCodes", inPlace := ["internal/abi.NoEscape", "internal/bytealg.MakeNoZero", "internal/bytealg.IndexByteString", "internal/bytealg.IndexString", "internal/bytealg.CountString"], recurses := true, named := ["unicode/utf8.first", "unicode/utf8.acceptRanges", "internal/bytealg.MaxLen"], apart := false, laid := [("unicode/utf8.acceptRanges", laid_unicode_utf8_acceptRanges), ("unicode/utf8.first", laid_unicode_utf8_first)], narrowed := true }
def BlockCodesUptoSaid : Prop := blockCodesUptoRow.holds Tryd.pinned (OpenSpec.upto blockCodesSpec)

/-- 'bowdlerlaw9.BlockParas', WHERE WHAT IT READS IS OF BULK AT MOST 1048576: true; the input reads as it did. -/
def blockParasUptoRow : OpenClaim := { program := "ytommebalgghdjaadoor", sum := "a29cf65c9e556aa133d8548b497c6152d7f809e2087475d9ace458e946b8cdc2", func := "bowdler/bowdlerlaw9.BlockParas", spec := "blockParas", inPlace := ["internal/abi.NoEscape", "internal/bytealg.MakeNoZero", "internal/bytealg.IndexByteString", "internal/bytealg.IndexString", "internal/bytealg.CountString"], unfollowed := true, recurses := true, named := ["unicode/utf8.first", "unicode/utf8.acceptRanges", "internal/bytealg.MaxLen"], apart := false, laid := [("unicode/utf8.acceptRanges", laid_unicode_utf8_acceptRanges), ("unicode/utf8.first", laid_unicode_utf8_first)], narrowed := true }
def BlockParasUptoSaid : Prop := blockParasUptoRow.holds Tryd.pinned (OpenSpec.upto blockParasSpec)

/-- 'bowdlerlaw9.BlockLists', WHERE WHAT IT READS IS OF BULK AT MOST 1048576: true; the input reads as it did. -/
def blockListsUptoRow : OpenClaim := { program := "ytommebalgghdjaadoor", sum := "a29cf65c9e556aa133d8548b497c6152d7f809e2087475d9ace458e946b8cdc2", func := "bowdler/bowdlerlaw9.BlockLists", spec := "blockLists", inPlace := ["internal/abi.NoEscape", "internal/bytealg.MakeNoZero", "internal/bytealg.IndexByteString", "internal/bytealg.IndexString", "internal/bytealg.CountString"], recurses := true, named := ["unicode/utf8.first", "unicode/utf8.acceptRanges", "internal/bytealg.MaxLen"], apart := false, laid := [("unicode/utf8.acceptRanges", laid_unicode_utf8_acceptRanges), ("unicode/utf8.first", laid_unicode_utf8_first)], narrowed := true }
def BlockListsUptoSaid : Prop := blockListsUptoRow.holds Tryd.pinned (OpenSpec.upto blockListsSpec)

/-- 'bowdlerlaw9.BlockDeep', WHERE WHAT IT READS IS OF BULK AT MOST 1048576: true; the input reads as it did. -/
def blockDeepUptoRow : OpenClaim := { program := "ytommebalgghdjaadoor", sum := "a29cf65c9e556aa133d8548b497c6152d7f809e2087475d9ace458e946b8cdc2", func := "bowdler/bowdlerlaw9.BlockDeep", spec := "blockDeep", inPlace := ["internal/abi.NoEscape", "internal/bytealg.MakeNoZero", "internal/bytealg.IndexByteString", "internal/bytealg.IndexString", "internal/bytealg.CountString"], recurses := true, named := ["unicode/utf8.first", "unicode/utf8.acceptRanges", "internal/bytealg.MaxLen"], apart := false, laid := [("unicode/utf8.acceptRanges", laid_unicode_utf8_acceptRanges), ("unicode/utf8.first", laid_unicode_utf8_first)], narrowed := true }
def BlockDeepUptoSaid : Prop := blockDeepUptoRow.holds Tryd.pinned (OpenSpec.upto blockDeepSpec)

/-- 'bowdlerlaw9.BlockUnder', WHERE WHAT IT READS IS OF BULK AT MOST 1048576: true; the input reads as it did. -/
def blockUnderUptoRow : OpenClaim := { program := "ytommebalgghdjaadoor", sum := "a29cf65c9e556aa133d8548b497c6152d7f809e2087475d9ace458e946b8cdc2", func := "bowdler/bowdlerlaw9.BlockUnder", spec := "blockUnder", inPlace := ["internal/abi.NoEscape", "internal/bytealg.MakeNoZero", "internal/bytealg.IndexByteString", "internal/bytealg.IndexString", "internal/bytealg.CountString"], recurses := true, named := ["unicode/utf8.first", "unicode/utf8.acceptRanges", "internal/bytealg.MaxLen"], apart := false, laid := [("unicode/utf8.acceptRanges", laid_unicode_utf8_acceptRanges), ("unicode/utf8.first", laid_unicode_utf8_first)], narrowed := true }
def BlockUnderUptoSaid : Prop := blockUnderUptoRow.holds Tryd.pinned (OpenSpec.upto blockUnderSpec)

/-- 'bowdlerlaw9.BlockKinds', WHERE WHAT IT READS IS OF BULK AT MOST 1048576: true; the input reads as it did. -/
def blockKindsUptoRow : OpenClaim := { program := "ytommebalgghdjaadoor", sum := "a29cf65c9e556aa133d8548b497c6152d7f809e2087475d9ace458e946b8cdc2", func := "bowdler/bowdlerlaw9.BlockKinds", spec := "blockKinds", inPlace := ["internal/abi.NoEscape", "internal/bytealg.MakeNoZero", "internal/bytealg.IndexByteString", "internal/bytealg.IndexString", "internal/bytealg.CountString"], recurses := true, named := ["unicode/utf8.first", "unicode/utf8.acceptRanges", "internal/bytealg.MaxLen"], apart := false, laid := [("unicode/utf8.acceptRanges", laid_unicode_utf8_acceptRanges), ("unicode/utf8.first", laid_unicode_utf8_first)], narrowed := true }
def BlockKindsUptoSaid : Prop := blockKindsUptoRow.holds Tryd.pinned (OpenSpec.upto blockKindsSpec)

/-- 'bowdlerlaw9.BlockApart', WHERE WHAT IT READS IS OF BULK AT MOST 1048576: true; the input reads as it did. -/
def blockApartUptoRow : OpenClaim := { program := "ytommebalgghdjaadoor", sum := "a29cf65c9e556aa133d8548b497c6152d7f809e2087475d9ace458e946b8cdc2", func := "bowdler/bowdlerlaw9.BlockApart", spec := "blockApart", inPlace := ["internal/abi.NoEscape", "internal/bytealg.MakeNoZero", "internal/bytealg.IndexByteString", "internal/bytealg.IndexString", "internal/bytealg.CountString"], recurses := true, named := ["unicode/utf8.first", "unicode/utf8.acceptRanges", "internal/bytealg.MaxLen"], apart := false, laid := [("unicode/utf8.acceptRanges", laid_unicode_utf8_acceptRanges), ("unicode/utf8.first", laid_unicode_utf8_first)], narrowed := true }
def BlockApartUptoSaid : Prop := blockApartUptoRow.holds Tryd.pinned (OpenSpec.upto blockApartSpec)

/-- 'bowdlerlaw9.BlockRaws', WHERE WHAT IT READS IS OF BULK AT MOST 1048576: true; the input reads as it did. -/
def blockRawsUptoRow : OpenClaim := { program := "ytommebalgghdjaadoor", sum := "a29cf65c9e556aa133d8548b497c6152d7f809e2087475d9ace458e946b8cdc2", func := "bowdler/bowdlerlaw9.BlockRaws", spec := "blockRaws", inPlace := ["internal/abi.NoEscape", "internal/bytealg.MakeNoZero", "internal/bytealg.IndexByteString", "internal/bytealg.IndexString", "internal/bytealg.CountString"], recurses := true, named := ["unicode/utf8.first", "unicode/utf8.acceptRanges", "internal/bytealg.MaxLen"], apart := false, laid := [("unicode/utf8.acceptRanges", laid_unicode_utf8_acceptRanges), ("unicode/utf8.first", laid_unicode_utf8_first)], narrowed := true }
def BlockRawsUptoSaid : Prop := blockRawsUptoRow.holds Tryd.pinned (OpenSpec.upto blockRawsSpec)

/-- 'bowdlerlaw9.BlockIndents', WHERE WHAT IT READS IS OF BULK AT MOST 1048576: true; the input reads as it did. -/
def blockIndentsUptoRow : OpenClaim := { program := "ytommebalgghdjaadoor", sum := "a29cf65c9e556aa133d8548b497c6152d7f809e2087475d9ace458e946b8cdc2", func := "bowdler/bowdlerlaw9.BlockIndents", spec := "blockIndents", inPlace := ["internal/abi.NoEscape", "internal/bytealg.MakeNoZero", "internal/bytealg.IndexByteString", "internal/bytealg.IndexString", "internal/bytealg.CountString"], recurses := true, named := ["unicode/utf8.first", "unicode/utf8.acceptRanges", "internal/bytealg.MaxLen"], apart := false, laid := [("unicode/utf8.acceptRanges", laid_unicode_utf8_acceptRanges), ("unicode/utf8.first", laid_unicode_utf8_first)], narrowed := true }
def BlockIndentsUptoSaid : Prop := blockIndentsUptoRow.holds Tryd.pinned (OpenSpec.upto blockIndentsSpec)

end Rows
end Go.Proofs.YtommebalgghdjaaDoor
