/-
  contents.entry: its contract: a section's line, without its end.
-/
import Derived.Test.YtfdfpimilmhhoaaEscape
namespace Go.Proofs.Ytfdfpimilmhhoaa
open Go.RowKit

/-- a section, as plain data -/
structure Sec where
  level : Int
  number : ByteArray
  anchor : ByteArray
  text : ByteArray
  deriving DecidableEq
def Sec.cells (x : Sec) : List Value := [.int .i64 x.level, .string x.number, .string x.anchor, .string x.text]

def entryT (x : Sec) (numbers : Bool) : List UInt8 :=
  [60, 108, 105, 62, 60, 97, 32, 104, 114, 101, 102, 61, 34, 35, 115, 45] ++ L x.anchor ++ [34, 62] ++ (if numbers then esc (L x.number) ++ [32] else []) ++ esc (L x.text) ++ [60, 47, 97, 62]

theorem entry_eq (x : Sec) (numbers : Bool) : entryT x numbers = (([] ++ L ⟨#[60, 108, 105, 62, 60, 97, 32, 104, 114, 101, 102, 61, 34, 35, 115, 45]⟩ ++ L x.anchor ++ L ⟨#[34, 62]⟩) ++ (if numbers then esc (L x.number) ++ [32] else [])) ++ esc (L x.text) ++ L ⟨#[60, 47, 97, 62]⟩ := rfl

set_option maxHeartbeats 2000000 in
set_option maxRecDepth 100000 in
theorem entry_any (x : Sec) (numbers : Bool) (w : World) (h1 : x.number.size ≤ 1099511627776) (h2 : x.anchor.size ≤ 1099511627776) (h3 : x.text.size ≤ 1099511627776) :
    Calls Try.prog 33 #[.agg #[.int .i64 x.level, .string x.number, .string x.anchor, .string x.text], .bool numbers] w fun e w' => e = .returned (.string (S (entryT x numbers))) ∧ Below w.heap.size w w' := by
  have hX : Blk (w.alloc (.cells #[.int .i64 x.level, .string x.number, .string x.anchor, .string x.text] 26)) w.heap.size 26 #[.int .i64 x.level, .string x.number, .string x.anchor, .string x.text] := Blk.new _ _ _
  have b0 : Below w.heap.size w (w.alloc (.cells #[.int .i64 x.level, .string x.number, .string x.anchor, .string x.text] 26)) := (Below.refl _ _).alloc (Nat.le_refl _) _
  have s0 : (w.alloc (.cells #[.int .i64 x.level, .string x.number, .string x.anchor, .string x.text] 26)).heap.size = w.heap.size + 1 := by simp
  have hN := esc_le (L x.number)
  have hT := esc_le (L x.text)
  have HE := Lib.hid (entry_eq x numbers)
  have hlits : (⟨#[60, 108, 105, 62, 60, 97, 32, 104, 114, 101, 102, 61, 34, 35, 115, 45]⟩ : ByteArray).size = 16 := rfl
  have hlit2 : (⟨#[34, 62]⟩ : ByteArray).size = 2 := rfl
  have HL := Lib.hid hlits
  have HL2 := Lib.hid hlit2
  clear hlits hlit2
  simp only [length_L] at hN hT
  go_enter Try.func33, Try.ntmps33
  go_wp2_with fail
  refine (writeString_any (w.heap.size + 1) (w.heap.size + 1) [] _ _ (Bld.new' _ _ s0) (by simp) (by simp)).mono ?_
  rintro e W1 ⟨rfl, B1, b1, k1⟩
  have X1 := (hX.alloc (.cells #[.pointer none, .slice none 0 0] 69)).below b1 (by omega)
  have c1 : W1.cell? ⟨w.heap.size, 2, none⟩ = some (.string x.anchor) := X1.cell 2
  have bb1 : Below w.heap.size w W1 := (b0.alloc (by simp) _).trans (b1.mono (by omega))
  have z1 := B1.lt
  clear k1 b1 hX b0 s0
  go_wp2_with fail
  refine (writeString_any (w.heap.size + 1) (w.heap.size + 1) _ _ _ B1 (by simp [HL.out]; omega) (by omega)).mono ?_
  rintro e W2 ⟨rfl, B2, b2, k2⟩
  have X2 := X1.below b2 (by omega)
  have bb2 := bb1.trans (b2.mono (by omega))
  have z2 := B2.lt
  clear k2 b2 X1 c1 bb1 B1 z1
  go_wp2_with fail
  refine (writeString_any (w.heap.size + 1) (w.heap.size + 1) _ _ _ B2 (by simp [HL.out, HL2.out]; omega) (by omega)).mono ?_
  rintro e W3 ⟨rfl, B3, b3, k3⟩
  have X3 := X2.below b3 (by omega)
  have bb3 := bb2.trans (b3.mono (by omega))
  have z3 := B3.lt
  have c3 : W3.cell? ⟨w.heap.size, 3, none⟩ = some (.string x.text) := X3.cell 3
  have c1 : W3.cell? ⟨w.heap.size, 1, none⟩ = some (.string x.number) := X3.cell 1
  clear k3 b3 X2 bb2 B2 z2
  generalize hacc : [] ++ L ⟨#[60, 108, 105, 62, 60, 97, 32, 104, 114, 101, 102, 61, 34, 35, 115, 45]⟩ ++ L x.anchor ++ L ⟨#[34, 62]⟩ = acc at *
  have hal : acc.length ≤ x.anchor.size + 18 := by rw [← hacc]; simp; omega
  clear hacc
  cases numbers
  case' false =>
    have HE' : Hid (entryT x false = acc ++ esc (L x.text) ++ L ⟨#[60, 47, 97, 62]⟩) := by have := HE.out; refine Lib.hid ?_; simpa using this
    clear HE
    go_wp2_with fail
    generalize hW : W3 = W at *
    generalize hA : acc = ac at *
    have hal' : ac.length ≤ x.anchor.size + 19 + 6 * x.number.size := by omega
    clear hW hA hal c1
  case' true =>
    go_wp2_with fail
    refine (escText_any x.number _ h1).mono ?_
    rintro e W4 ⟨rfl, b4⟩
    have X4 := X3.below b4 (by omega)
    have B4 := B3.below b4 (Nat.le_refl _)
    have bb4 := bb3.trans (b4.mono (by omega))
    have z4 := B4.lt
    clear b4 X3 bb3 B3 z3 c3 c1
    go_wp2_with fail
    refine (writeString_any (w.heap.size + 1) (w.heap.size + 1) _ _ _ B4 (by simp; omega) (by omega)).mono ?_
    rintro e W ⟨rfl, B3, b5, k5⟩
    have X3 := X4.below b5 (by omega)
    have bb3 := bb4.trans (b5.mono (by omega))
    have z3 := B3.lt
    have c3 : W.cell? ⟨w.heap.size, 3, none⟩ = some (.string x.text) := X3.cell 3
    clear k5 b5 X4 bb4 B4 z4
    have HE' : Hid (entryT x true = (acc ++ L (S (esc (L x.number)) ++ ⟨#[32]⟩)) ++ esc (L x.text) ++ L ⟨#[60, 47, 97, 62]⟩) := by have := HE.out; refine Lib.hid ?_; simpa [L_append, L_lit] using this
    clear HE
    generalize hA : acc ++ L (S (esc (L x.number)) ++ ⟨#[32]⟩) = ac at *
    have hal' : ac.length ≤ x.anchor.size + 19 + 6 * x.number.size := by rw [← hA]; simp; omega
    clear hA hal
    go_wp2_with fail
  all_goals
    go_region_with (first
      | (go_at_call 35; refine (string_any (w.heap.size + 1) (w.heap.size + 1) ac _ (by exact B3) (by simp; omega)).mono ?_; rintro e W5 ⟨rfl, B5, b5, k5⟩; have c5 : W5.cell? ⟨w.heap.size, 3, none⟩ = some (.string x.text) := (b5.cell (by simp)).trans c3; have bb5 := bb3.drew.trans (b5.mono (by omega)); clear k5)
      | (go_at_call 81; refine (escText_any x.text _ h3).mono ?_; rintro e W6 ⟨rfl, b6⟩))
    all_goals go_wp2
    all_goals go_ret
    all_goals
      refine ⟨?_, bb5.trans (b6.mono (by have := bb5.size; omega))⟩
      rw [HE'.out]
      exact congrArg (fun x => Ending.returned (Value.string x)) (by simp only [S_append, L_S])
end Go.Proofs.Ytfdfpimilmhhoaa
