/-
  line: the contract of Blank.
-/
import Derived.Test.YtgmkjjccnlnpoaaDoorChecked
import Derived.Test.YtgmkjjccnlnpoaaDoorBuild
import Derived.Test.YtgmkjjccnlnpoaaDoorBlankLaw
import Derived.Test.YtgmkjjccnlnpoaaDoorBytes
import Derived.Shelf.Strings.SlTrimAscii
namespace Go.Proofs.YtgmkjjccnlnpoaaDoor
open Go.RowKit

/-! ## blanks -/
def blankT (l : List UInt8) : Bool := l.all (fun b => b == 32 || b == 9)
theorem dropW_nil {p : UInt8 → Bool} (l : List UInt8) : l.dropWhile p = [] ↔ ∀ x ∈ l, p x = true := by
  induction l with
  | nil => simp
  | cons x l ih =>
    rw [List.dropWhile_cons]
    split
    · rename_i h; rw [ih]; simp [h]
    · rename_i h; simp [h]
theorem has_blank (b : UInt8) : ([32, 9] : List UInt8).contains b = (b == 32 || b == 9) := by
  by_cases h1 : b = 32 <;> by_cases h2 : b = 9 <;> simp [h1, h2]
theorem trimS_blank (l : List UInt8) : Lib.trimS l [32, 9] = [] ↔ blankT l = true := by
  have e : (fun b : UInt8 => ([32, 9] : List UInt8).contains b) = (fun b => b == 32 || b == 9) := funext has_blank
  unfold Lib.trimS Lib.trimLeftS Lib.trimRightS blankT
  rw [e]
  constructor
  · intro h
    rw [List.all_eq_true]
    intro x hx
    have h1 := (dropW_nil _).1 h
    by_cases hm : x ∈ (List.dropWhile (fun b => b == 32 || b == 9) l.reverse).reverse
    · exact h1 x hm
    · have hs := List.takeWhile_append_dropWhile (p := fun b : UInt8 => b == 32 || b == 9) (l := l.reverse)
      have : x ∈ l.reverse := by simpa using hx
      rw [← hs] at this
      rcases List.mem_append.1 this with h2 | h2
      · have := List.all_eq_true.1 (List.all_takeWhile (p := fun b : UInt8 => b == 32 || b == 9) (l := l.reverse)) x h2
        exact this
      · exact absurd (by simpa using h2) hm
  · intro h
    rw [List.all_eq_true] at h
    have h1 : List.dropWhile (fun b : UInt8 => b == 32 || b == 9) l.reverse = [] := (dropW_nil _).2 fun x hx => h x (by simpa using hx)
    rw [h1]; rfl

end Go.Proofs.YtgmkjjccnlnpoaaDoor
