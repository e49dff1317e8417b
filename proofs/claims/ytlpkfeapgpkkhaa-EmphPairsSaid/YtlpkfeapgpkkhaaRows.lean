/-
  No cell of these rows narrows 'for every input' (looked for: loops, veiled, ifaces, maps, wideKeys, modest, calm, conditions, laid).
  DERIVED. THE GIVEN ROWS OF THIS SEAT. 8 by the template 'for every input the law returns true; each argument reads behind the call as it read before'; 0 by the template 'total and deterministic' (their statements: YtlpkfeapgpkkhaaTotals.lean).
  GIVEN WITH THE SEED: the statements are not yours to turn. If you find one false, say at which input.
  Laid BY PROGRAM, IN A SANDBOX (cutbox-rows.mjs): the forced cells as the released guide's own fill.sh prints them over the translation 5889795d0c901981… (all of the seat's roots in one cut). By AI agents, Wed Nov 11 2026. No macro, syntax, notation, axiom, sorry.
-/
import Derived.Test.YtlpkfeapgpkkhaaChecked
import GoSem.Claim
import GoSem.ClaimJoined
import GoSem.ClaimMapViews
import Derived.JoinedTies
import Derived.KernelRfl
namespace Go.Proofs.Ytlpkfeapgpkkhaa
/- THE CELL 'sum', in the pinned program and in every row, IS THE sha256 OF THE DUMP (.gsa) THAT YtlpkfeapgpkkhaaProg.lean LOADS. Nothing in Lean hashes anything: it is a label: what it is worth is what the hold of that sum in a sandbox is worth. -/
noncomputable def Try.pinned : Pinned := { name := "ytlpkfeapgpkkhaa", sum := "5889795d0c901981e968c341c2a0200c529ded86cf3fa46f25513974fdb514ff", checked := Try.checked }
namespace Rows
def none {H : Type} : Left H := { results := [], args := [] }

/-- 'bowdlerlaw14.EmphTells': WHATEVER THE INPUT: true; the input reads as it did. -/
def emphTellsSpec : ChangeSpec := { name := "emphTells", fn := fun _ => fun
  | [d1, d2] => { results := [.lit (.bool true)], args := [d1, d2] }
  | _ => none }
def emphTellsRow : OpenClaim := { program := "ytlpkfeapgpkkhaa", sum := "5889795d0c901981e968c341c2a0200c529ded86cf3fa46f25513974fdb514ff", func := "bowdler/bowdlerlaw14.EmphTells", spec := "emphTells", inPlace := ["internal/abi.NoEscape", "internal/bytealg.MakeNoZero"], apart := false }
def EmphTellsSaid : Prop := emphTellsRow.holds Try.pinned (OpenSpec.ofChange emphTellsSpec)

/-- ITS FALSE NEIGHBOUR: 'it returns false'. Refute it at one input. -/
def emphTellsWrong : ChangeSpec := { name := "emphTells", fn := fun _ => fun
  | [d1, d2] => { results := [.lit (.bool false)], args := [d1, d2] }
  | _ => none }
def EmphTellsWrongFalsely : Prop := emphTellsRow.holds Try.pinned (OpenSpec.ofChange emphTellsWrong)

/-- 'bowdlerlaw14.EmphKeeps': WHATEVER THE INPUT: true; the input reads as it did. -/
def emphKeepsSpec : ChangeSpec := { name := "emphKeeps", fn := fun _ => fun
  | [d] => { results := [.lit (.bool true)], args := [d] }
  | _ => none }
def emphKeepsRow : OpenClaim := { program := "ytlpkfeapgpkkhaa", sum := "5889795d0c901981e968c341c2a0200c529ded86cf3fa46f25513974fdb514ff", func := "bowdler/bowdlerlaw14.EmphKeeps", spec := "emphKeeps", inPlace := ["internal/abi.NoEscape", "internal/bytealg.MakeNoZero"], apart := false }
def EmphKeepsSaid : Prop := emphKeepsRow.holds Try.pinned (OpenSpec.ofChange emphKeepsSpec)

/-- ITS FALSE NEIGHBOUR: 'it returns false'. Refute it at one input. -/
def emphKeepsWrong : ChangeSpec := { name := "emphKeeps", fn := fun _ => fun
  | [d] => { results := [.lit (.bool false)], args := [d] }
  | _ => none }
def EmphKeepsWrongFalsely : Prop := emphKeepsRow.holds Try.pinned (OpenSpec.ofChange emphKeepsWrong)

/-- 'bowdlerlaw14.EmphPairs': WHATEVER THE INPUT: true; the input reads as it did. -/
def emphPairsSpec : ChangeSpec := { name := "emphPairs", fn := fun _ => fun
  | [d1, d2, d3, d4] => { results := [.lit (.bool true)], args := [d1, d2, d3, d4] }
  | _ => none }
def emphPairsRow : OpenClaim := { program := "ytlpkfeapgpkkhaa", sum := "5889795d0c901981e968c341c2a0200c529ded86cf3fa46f25513974fdb514ff", func := "bowdler/bowdlerlaw14.EmphPairs", spec := "emphPairs", inPlace := ["internal/abi.NoEscape", "internal/bytealg.MakeNoZero"], apart := false }
def EmphPairsSaid : Prop := emphPairsRow.holds Try.pinned (OpenSpec.ofChange emphPairsSpec)

/-- ITS FALSE NEIGHBOUR: 'it returns false'. Refute it at one input. -/
def emphPairsWrong : ChangeSpec := { name := "emphPairs", fn := fun _ => fun
  | [d1, d2, d3, d4] => { results := [.lit (.bool false)], args := [d1, d2, d3, d4] }
  | _ => none }
def EmphPairsWrongFalsely : Prop := emphPairsRow.holds Try.pinned (OpenSpec.ofChange emphPairsWrong)

/-- 'bowdlerlaw14.EmphNone': WHATEVER THE INPUT: true; the input reads as it did. -/
def emphNoneSpec : ChangeSpec := { name := "emphNone", fn := fun _ => fun
  | [d] => { results := [.lit (.bool true)], args := [d] }
  | _ => none }
def emphNoneRow : OpenClaim := { program := "ytlpkfeapgpkkhaa", sum := "5889795d0c901981e968c341c2a0200c529ded86cf3fa46f25513974fdb514ff", func := "bowdler/bowdlerlaw14.EmphNone", spec := "emphNone", inPlace := ["internal/abi.NoEscape", "internal/bytealg.MakeNoZero"], apart := false }
def EmphNoneSaid : Prop := emphNoneRow.holds Try.pinned (OpenSpec.ofChange emphNoneSpec)

/-- ITS FALSE NEIGHBOUR: 'it returns false'. Refute it at one input. -/
def emphNoneWrong : ChangeSpec := { name := "emphNone", fn := fun _ => fun
  | [d] => { results := [.lit (.bool false)], args := [d] }
  | _ => none }
def EmphNoneWrongFalsely : Prop := emphNoneRow.holds Try.pinned (OpenSpec.ofChange emphNoneWrong)

/-- 'bowdlerlaw14.EmphMerges': WHATEVER THE INPUT: true; the input reads as it did. -/
def emphMergesSpec : ChangeSpec := { name := "emphMerges", fn := fun _ => fun
  | [d] => { results := [.lit (.bool true)], args := [d] }
  | _ => none }
def emphMergesRow : OpenClaim := { program := "ytlpkfeapgpkkhaa", sum := "5889795d0c901981e968c341c2a0200c529ded86cf3fa46f25513974fdb514ff", func := "bowdler/bowdlerlaw14.EmphMerges", spec := "emphMerges", inPlace := ["internal/abi.NoEscape", "internal/bytealg.MakeNoZero"], apart := false }
def EmphMergesSaid : Prop := emphMergesRow.holds Try.pinned (OpenSpec.ofChange emphMergesSpec)

/-- ITS FALSE NEIGHBOUR: 'it returns false'. Refute it at one input. -/
def emphMergesWrong : ChangeSpec := { name := "emphMerges", fn := fun _ => fun
  | [d] => { results := [.lit (.bool false)], args := [d] }
  | _ => none }
def EmphMergesWrongFalsely : Prop := emphMergesRow.holds Try.pinned (OpenSpec.ofChange emphMergesWrong)

/-- 'bowdlerlaw14.EmphNests': WHATEVER THE INPUT: true; the input reads as it did. -/
def emphNestsSpec : ChangeSpec := { name := "emphNests", fn := fun _ => fun
  | [d1, d2] => { results := [.lit (.bool true)], args := [d1, d2] }
  | _ => none }
def emphNestsRow : OpenClaim := { program := "ytlpkfeapgpkkhaa", sum := "5889795d0c901981e968c341c2a0200c529ded86cf3fa46f25513974fdb514ff", func := "bowdler/bowdlerlaw14.EmphNests", spec := "emphNests", inPlace := ["internal/abi.NoEscape", "internal/bytealg.MakeNoZero"], apart := false }
def EmphNestsSaid : Prop := emphNestsRow.holds Try.pinned (OpenSpec.ofChange emphNestsSpec)

/-- ITS FALSE NEIGHBOUR: 'it returns false'. Refute it at one input. -/
def emphNestsWrong : ChangeSpec := { name := "emphNests", fn := fun _ => fun
  | [d1, d2] => { results := [.lit (.bool false)], args := [d1, d2] }
  | _ => none }
def EmphNestsWrongFalsely : Prop := emphNestsRow.holds Try.pinned (OpenSpec.ofChange emphNestsWrong)

/-- 'bowdlerlaw14.EmphThrees': WHATEVER THE INPUT: true; the input reads as it did. -/
def emphThreesSpec : ChangeSpec := { name := "emphThrees", fn := fun _ => fun
  | [d1, d2] => { results := [.lit (.bool true)], args := [d1, d2] }
  | _ => none }
def emphThreesRow : OpenClaim := { program := "ytlpkfeapgpkkhaa", sum := "5889795d0c901981e968c341c2a0200c529ded86cf3fa46f25513974fdb514ff", func := "bowdler/bowdlerlaw14.EmphThrees", spec := "emphThrees", inPlace := ["internal/abi.NoEscape", "internal/bytealg.MakeNoZero"], apart := false }
def EmphThreesSaid : Prop := emphThreesRow.holds Try.pinned (OpenSpec.ofChange emphThreesSpec)

/-- ITS FALSE NEIGHBOUR: 'it returns false'. Refute it at one input. -/
def emphThreesWrong : ChangeSpec := { name := "emphThrees", fn := fun _ => fun
  | [d1, d2] => { results := [.lit (.bool false)], args := [d1, d2] }
  | _ => none }
def EmphThreesWrongFalsely : Prop := emphThreesRow.holds Try.pinned (OpenSpec.ofChange emphThreesWrong)

/-- 'bowdlerlaw14.EmphSigns': WHATEVER THE INPUT: true; the input reads as it did. -/
def emphSignsSpec : ChangeSpec := { name := "emphSigns", fn := fun _ => fun
  | [d1, d2] => { results := [.lit (.bool true)], args := [d1, d2] }
  | _ => none }
def emphSignsRow : OpenClaim := { program := "ytlpkfeapgpkkhaa", sum := "5889795d0c901981e968c341c2a0200c529ded86cf3fa46f25513974fdb514ff", func := "bowdler/bowdlerlaw14.EmphSigns", spec := "emphSigns", inPlace := ["internal/abi.NoEscape", "internal/bytealg.MakeNoZero"], apart := false }
def EmphSignsSaid : Prop := emphSignsRow.holds Try.pinned (OpenSpec.ofChange emphSignsSpec)

/-- ITS FALSE NEIGHBOUR: 'it returns false'. Refute it at one input. -/
def emphSignsWrong : ChangeSpec := { name := "emphSigns", fn := fun _ => fun
  | [d1, d2] => { results := [.lit (.bool false)], args := [d1, d2] }
  | _ => none }
def EmphSignsWrongFalsely : Prop := emphSignsRow.holds Try.pinned (OpenSpec.ofChange emphSignsWrong)

/- THE SECOND FORM. 'bulk': how many values and letters a reading holds, each counted each time it is reached (what is shared counts as often as it is met; a slice's spare places count too). A statement '..UptoSaid' is the law's where the arguments, and the package variables that the reading takes, are together of bulk at most 1048576: NARROWER than '..Said'. Prove '..Said' where nothing that the law and all that it calls make is longer than what came in: it says more and counts as full. Else prove '..UptoSaid'. A law counts once. -/
mutual
def uptoBulk {H : Type} : DataW H → Nat
  | .lit (.string bytes) => bytes.length + 1
  | .lit _ => 1
  | .nil => 1
  | .ptr d => uptoBulk d + 1
  | .slice elems spare => uptoBulkAll elems + uptoBulkAll spare + 1
  | .agg parts => uptoBulkAll parts + 1
  | .iface _ d => uptoBulk d + 1
  | .map entries => uptoBulkEntries entries + 1
  | .held _ => 1
def uptoBulkAll {H : Type} : List (DataW H) → Nat
  | [] => 0
  | d :: r => uptoBulk d + uptoBulkAll r
def uptoBulkEntries {H : Type} : List (Lit × DataW H) → Nat
  | [] => 0
  | x :: r => uptoBulkEntry x + uptoBulkEntries r
def uptoBulkEntry {H : Type} : Lit × DataW H → Nat
  | (.string bytes, d) => bytes.length + uptoBulk d + 1
  | (_, d) => uptoBulk d + 1
 end
def uptoSmall : (H : Type) → List (DataW H) → Bool := fun _ ds => decide (uptoBulkAll ds ≤ 1048576)
def OpenSpec.upto (s : _root_.Go.ChangeSpec) : _root_.Go.OpenSpec := { _root_.Go.OpenSpec.ofChange s with cond := some uptoSmall }

/-- 'bowdlerlaw14.EmphTells', WHERE WHAT IT READS IS OF BULK AT MOST 1048576: true; the input reads as it did. -/
def emphTellsUptoRow : OpenClaim := { program := "ytlpkfeapgpkkhaa", sum := "5889795d0c901981e968c341c2a0200c529ded86cf3fa46f25513974fdb514ff", func := "bowdler/bowdlerlaw14.EmphTells", spec := "emphTells", inPlace := ["internal/abi.NoEscape", "internal/bytealg.MakeNoZero"], apart := false, narrowed := true }
def EmphTellsUptoSaid : Prop := emphTellsUptoRow.holds Try.pinned (OpenSpec.upto emphTellsSpec)

/-- 'bowdlerlaw14.EmphKeeps', WHERE WHAT IT READS IS OF BULK AT MOST 1048576: true; the input reads as it did. -/
def emphKeepsUptoRow : OpenClaim := { program := "ytlpkfeapgpkkhaa", sum := "5889795d0c901981e968c341c2a0200c529ded86cf3fa46f25513974fdb514ff", func := "bowdler/bowdlerlaw14.EmphKeeps", spec := "emphKeeps", inPlace := ["internal/abi.NoEscape", "internal/bytealg.MakeNoZero"], apart := false, narrowed := true }
def EmphKeepsUptoSaid : Prop := emphKeepsUptoRow.holds Try.pinned (OpenSpec.upto emphKeepsSpec)

/-- 'bowdlerlaw14.EmphPairs', WHERE WHAT IT READS IS OF BULK AT MOST 1048576: true; the input reads as it did. -/
def emphPairsUptoRow : OpenClaim := { program := "ytlpkfeapgpkkhaa", sum := "5889795d0c901981e968c341c2a0200c529ded86cf3fa46f25513974fdb514ff", func := "bowdler/bowdlerlaw14.EmphPairs", spec := "emphPairs", inPlace := ["internal/abi.NoEscape", "internal/bytealg.MakeNoZero"], apart := false, narrowed := true }
def EmphPairsUptoSaid : Prop := emphPairsUptoRow.holds Try.pinned (OpenSpec.upto emphPairsSpec)

/-- 'bowdlerlaw14.EmphNone', WHERE WHAT IT READS IS OF BULK AT MOST 1048576: true; the input reads as it did. -/
def emphNoneUptoRow : OpenClaim := { program := "ytlpkfeapgpkkhaa", sum := "5889795d0c901981e968c341c2a0200c529ded86cf3fa46f25513974fdb514ff", func := "bowdler/bowdlerlaw14.EmphNone", spec := "emphNone", inPlace := ["internal/abi.NoEscape", "internal/bytealg.MakeNoZero"], apart := false, narrowed := true }
def EmphNoneUptoSaid : Prop := emphNoneUptoRow.holds Try.pinned (OpenSpec.upto emphNoneSpec)

/-- 'bowdlerlaw14.EmphMerges', WHERE WHAT IT READS IS OF BULK AT MOST 1048576: true; the input reads as it did. -/
def emphMergesUptoRow : OpenClaim := { program := "ytlpkfeapgpkkhaa", sum := "5889795d0c901981e968c341c2a0200c529ded86cf3fa46f25513974fdb514ff", func := "bowdler/bowdlerlaw14.EmphMerges", spec := "emphMerges", inPlace := ["internal/abi.NoEscape", "internal/bytealg.MakeNoZero"], apart := false, narrowed := true }
def EmphMergesUptoSaid : Prop := emphMergesUptoRow.holds Try.pinned (OpenSpec.upto emphMergesSpec)

/-- 'bowdlerlaw14.EmphNests', WHERE WHAT IT READS IS OF BULK AT MOST 1048576: true; the input reads as it did. -/
def emphNestsUptoRow : OpenClaim := { program := "ytlpkfeapgpkkhaa", sum := "5889795d0c901981e968c341c2a0200c529ded86cf3fa46f25513974fdb514ff", func := "bowdler/bowdlerlaw14.EmphNests", spec := "emphNests", inPlace := ["internal/abi.NoEscape", "internal/bytealg.MakeNoZero"], apart := false, narrowed := true }
def EmphNestsUptoSaid : Prop := emphNestsUptoRow.holds Try.pinned (OpenSpec.upto emphNestsSpec)

/-- 'bowdlerlaw14.EmphThrees', WHERE WHAT IT READS IS OF BULK AT MOST 1048576: true; the input reads as it did. -/
def emphThreesUptoRow : OpenClaim := { program := "ytlpkfeapgpkkhaa", sum := "5889795d0c901981e968c341c2a0200c529ded86cf3fa46f25513974fdb514ff", func := "bowdler/bowdlerlaw14.EmphThrees", spec := "emphThrees", inPlace := ["internal/abi.NoEscape", "internal/bytealg.MakeNoZero"], apart := false, narrowed := true }
def EmphThreesUptoSaid : Prop := emphThreesUptoRow.holds Try.pinned (OpenSpec.upto emphThreesSpec)

/-- 'bowdlerlaw14.EmphSigns', WHERE WHAT IT READS IS OF BULK AT MOST 1048576: true; the input reads as it did. -/
def emphSignsUptoRow : OpenClaim := { program := "ytlpkfeapgpkkhaa", sum := "5889795d0c901981e968c341c2a0200c529ded86cf3fa46f25513974fdb514ff", func := "bowdler/bowdlerlaw14.EmphSigns", spec := "emphSigns", inPlace := ["internal/abi.NoEscape", "internal/bytealg.MakeNoZero"], apart := false, narrowed := true }
def EmphSignsUptoSaid : Prop := emphSignsUptoRow.holds Try.pinned (OpenSpec.upto emphSignsSpec)

end Rows
end Go.Proofs.Ytlpkfeapgpkkhaa
