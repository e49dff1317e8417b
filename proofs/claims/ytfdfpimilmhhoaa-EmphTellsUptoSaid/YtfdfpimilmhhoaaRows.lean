/-
  No cell of these rows narrows 'for every input' (looked for: loops, veiled, ifaces, maps, wideKeys, modest, calm, conditions, laid).
  DERIVED. THE GIVEN ROWS OF THIS SEAT. 3 by the template 'for every input the law returns true; each argument reads behind the call as it read before'; 0 by the template 'total and deterministic' (their statements: YtfdfpimilmhhoaaTotals.lean).
  GIVEN WITH THE SEED: the statements are not yours to turn. If you find one false, say at which input.
  Laid BY PROGRAM, IN A SANDBOX (cutbox-rows.mjs): the forced cells as the released guide's own fill.sh prints them over the translation 2122f9e25872fc5f… (all of the seat's roots in one cut). By AI agents, Wed Nov 11 2026. No macro, syntax, notation, axiom, sorry.
-/
import Derived.Test.YtfdfpimilmhhoaaChecked
import GoSem.Claim
import GoSem.ClaimJoined
import GoSem.ClaimMapViews
import Derived.JoinedTies
import Derived.KernelRfl
namespace Go.Proofs.Ytfdfpimilmhhoaa
/- THE CELL 'sum', in the pinned program and in every row, IS THE sha256 OF THE DUMP (.gsa) THAT YtfdfpimilmhhoaaProg.lean LOADS. Nothing in Lean hashes anything: it is a label: what it is worth is what the hold of that sum in a sandbox is worth. -/
noncomputable def Try.pinned : Pinned := { name := "ytfdfpimilmhhoaa", sum := "2122f9e25872fc5f4a0c6b9728a1d9cb80b033616cb041b1272bd69a99f7699c", checked := Try.checked }
namespace Rows
def none {H : Type} : Left H := { results := [], args := [] }

/-- 'bowdlerlaw20.ContentsTells': WHATEVER THE INPUT: true; the input reads as it did. -/
def contentsTellsSpec : ChangeSpec := { name := "contentsTells", fn := fun _ => fun
  | [d1, d2, d3, d4] => { results := [.lit (.bool true)], args := [d1, d2, d3, d4] }
  | _ => none }
def contentsTellsRow : OpenClaim := { program := "ytfdfpimilmhhoaa", sum := "2122f9e25872fc5f4a0c6b9728a1d9cb80b033616cb041b1272bd69a99f7699c", func := "bowdler/bowdlerlaw20.ContentsTells", spec := "contentsTells", inPlace := ["internal/abi.NoEscape", "internal/bytealg.MakeNoZero"], apart := false }
def ContentsTellsSaid : Prop := contentsTellsRow.holds Try.pinned (OpenSpec.ofChange contentsTellsSpec)

/-- ITS FALSE NEIGHBOUR: 'it returns false'. Refute it at one input. -/
def contentsTellsWrong : ChangeSpec := { name := "contentsTells", fn := fun _ => fun
  | [d1, d2, d3, d4] => { results := [.lit (.bool false)], args := [d1, d2, d3, d4] }
  | _ => none }
def ContentsTellsWrongFalsely : Prop := contentsTellsRow.holds Try.pinned (OpenSpec.ofChange contentsTellsWrong)

/-- 'bowdlerlaw20.ContentsForest': WHATEVER THE INPUT: true; the input reads as it did. -/
def contentsForestSpec : ChangeSpec := { name := "contentsForest", fn := fun _ => fun
  | [d1, d2, d3] => { results := [.lit (.bool true)], args := [d1, d2, d3] }
  | _ => none }
def contentsForestRow : OpenClaim := { program := "ytfdfpimilmhhoaa", sum := "2122f9e25872fc5f4a0c6b9728a1d9cb80b033616cb041b1272bd69a99f7699c", func := "bowdler/bowdlerlaw20.ContentsForest", spec := "contentsForest", inPlace := ["internal/abi.NoEscape", "internal/bytealg.MakeNoZero"], apart := false }
def ContentsForestSaid : Prop := contentsForestRow.holds Try.pinned (OpenSpec.ofChange contentsForestSpec)

/-- ITS FALSE NEIGHBOUR: 'it returns false'. Refute it at one input. -/
def contentsForestWrong : ChangeSpec := { name := "contentsForest", fn := fun _ => fun
  | [d1, d2, d3] => { results := [.lit (.bool false)], args := [d1, d2, d3] }
  | _ => none }
def ContentsForestWrongFalsely : Prop := contentsForestRow.holds Try.pinned (OpenSpec.ofChange contentsForestWrong)

/-- 'bowdlerlaw14.EmphTells': WHATEVER THE INPUT: true; the input reads as it did. -/
def emphTellsSpec : ChangeSpec := { name := "emphTells", fn := fun _ => fun
  | [d1, d2] => { results := [.lit (.bool true)], args := [d1, d2] }
  | _ => none }
def emphTellsRow : OpenClaim := { program := "ytfdfpimilmhhoaa", sum := "2122f9e25872fc5f4a0c6b9728a1d9cb80b033616cb041b1272bd69a99f7699c", func := "bowdler/bowdlerlaw14.EmphTells", spec := "emphTells", inPlace := ["internal/abi.NoEscape", "internal/bytealg.MakeNoZero"], apart := false }
def EmphTellsSaid : Prop := emphTellsRow.holds Try.pinned (OpenSpec.ofChange emphTellsSpec)

/-- ITS FALSE NEIGHBOUR: 'it returns false'. Refute it at one input. -/
def emphTellsWrong : ChangeSpec := { name := "emphTells", fn := fun _ => fun
  | [d1, d2] => { results := [.lit (.bool false)], args := [d1, d2] }
  | _ => none }
def EmphTellsWrongFalsely : Prop := emphTellsRow.holds Try.pinned (OpenSpec.ofChange emphTellsWrong)

/- THE SECOND FORM. 'bulk': how many values and letters a reading holds, each counted each time it is reached (what is shared counts as often as it is met; a slice's spare places count too). A statement '..UptoSaid' is the law's where the arguments, and the package variables that the reading takes, are together of bulk at most 1048576: NARROWER than '..Said'. Prove '..Said' where nothing that the law and all that it calls make is longer than what came in: it says more and counts as full. Else prove '..UptoSaid'. A law counts once. -/
mutual
def uptoBulk {H : Type} : DataW H → Nat
  | .lit (.string bytes) => bytes.length + 1
  | .lit _ => 1
  | .nil => 1
  | .ptr d => uptoBulk d + 1
  | .slice elems spare => uptoBulkAll elems + uptoBulkAll spare + 1
  | .agg parts => uptoBulkAll parts + 1
  | .iface _ d => uptoBulk d + 1
  | .map entries => uptoBulkEntries entries + 1
  | .held _ => 1
def uptoBulkAll {H : Type} : List (DataW H) → Nat
  | [] => 0
  | d :: r => uptoBulk d + uptoBulkAll r
def uptoBulkEntries {H : Type} : List (Lit × DataW H) → Nat
  | [] => 0
  | x :: r => uptoBulkEntry x + uptoBulkEntries r
def uptoBulkEntry {H : Type} : Lit × DataW H → Nat
  | (.string bytes, d) => bytes.length + uptoBulk d + 1
  | (_, d) => uptoBulk d + 1
 end
def uptoSmall : (H : Type) → List (DataW H) → Bool := fun _ ds => decide (uptoBulkAll ds ≤ 1048576)
def OpenSpec.upto (s : _root_.Go.ChangeSpec) : _root_.Go.OpenSpec := { _root_.Go.OpenSpec.ofChange s with cond := some uptoSmall }

/-- 'bowdlerlaw20.ContentsTells', WHERE WHAT IT READS IS OF BULK AT MOST 1048576: true; the input reads as it did. -/
def contentsTellsUptoRow : OpenClaim := { program := "ytfdfpimilmhhoaa", sum := "2122f9e25872fc5f4a0c6b9728a1d9cb80b033616cb041b1272bd69a99f7699c", func := "bowdler/bowdlerlaw20.ContentsTells", spec := "contentsTells", inPlace := ["internal/abi.NoEscape", "internal/bytealg.MakeNoZero"], apart := false, narrowed := true }
def ContentsTellsUptoSaid : Prop := contentsTellsUptoRow.holds Try.pinned (OpenSpec.upto contentsTellsSpec)

/-- 'bowdlerlaw20.ContentsForest', WHERE WHAT IT READS IS OF BULK AT MOST 1048576: true; the input reads as it did. -/
def contentsForestUptoRow : OpenClaim := { program := "ytfdfpimilmhhoaa", sum := "2122f9e25872fc5f4a0c6b9728a1d9cb80b033616cb041b1272bd69a99f7699c", func := "bowdler/bowdlerlaw20.ContentsForest", spec := "contentsForest", inPlace := ["internal/abi.NoEscape", "internal/bytealg.MakeNoZero"], apart := false, narrowed := true }
def ContentsForestUptoSaid : Prop := contentsForestUptoRow.holds Try.pinned (OpenSpec.upto contentsForestSpec)

/-- 'bowdlerlaw14.EmphTells', WHERE WHAT IT READS IS OF BULK AT MOST 1048576: true; the input reads as it did. -/
def emphTellsUptoRow : OpenClaim := { program := "ytfdfpimilmhhoaa", sum := "2122f9e25872fc5f4a0c6b9728a1d9cb80b033616cb041b1272bd69a99f7699c", func := "bowdler/bowdlerlaw14.EmphTells", spec := "emphTells", inPlace := ["internal/abi.NoEscape", "internal/bytealg.MakeNoZero"], apart := false, narrowed := true }
def EmphTellsUptoSaid : Prop := emphTellsUptoRow.holds Try.pinned (OpenSpec.upto emphTellsSpec)

end Rows
end Go.Proofs.Ytfdfpimilmhhoaa
