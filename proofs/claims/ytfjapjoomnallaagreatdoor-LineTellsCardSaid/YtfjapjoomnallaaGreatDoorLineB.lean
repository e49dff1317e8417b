/-
  line: the contract of Blank.
-/
import Derived.Test.YtfjapjoomnallaaGreatDoorChecked
import Derived.Test.YtfjapjoomnallaaGreatDoorBuild
import Derived.Test.YtfjapjoomnallaaGreatDoorBlankLaw
import Derived.Test.YtfjapjoomnallaaGreatDoorBytes
import Derived.Shelf.Strings.SlTrimAscii
namespace Go.Proofs.YtfjapjoomnallaaGreatDoor
open Go.RowKit

/-! ## blanks -/
def blankT (l : List UInt8) : Bool := l.all (fun b => b == 32 || b == 9)
theorem dropW_nil {p : UInt8 → Bool} (l : List UInt8) : l.dropWhile p = [] ↔ ∀ x ∈ l, p x = true := by
  induction l with
  | nil => simp
  | cons x l ih =>
    rw [List.dropWhile_cons]
    split
    · rename_i h; rw [ih]; simp [h]
    · rename_i h; simp [h]
theorem has_blank (b : UInt8) : ([32, 9] : List UInt8).contains b = (b == 32 || b == 9) := by
  by_cases h1 : b = 32 <;> by_cases h2 : b = 9 <;> simp [h1, h2]
theorem trimS_blank (l : List UInt8) : Lib.trimS l [32, 9] = [] ↔ blankT l = true := by
  have e : (fun b : UInt8 => ([32, 9] : List UInt8).contains b) = (fun b => b == 32 || b == 9) := funext has_blank
  unfold Lib.trimS Lib.trimLeftS Lib.trimRightS blankT
  rw [e]
  constructor
  · intro h
    rw [List.all_eq_true]
    intro x hx
    have h1 := (dropW_nil _).1 h
    by_cases hm : x ∈ (List.dropWhile (fun b => b == 32 || b == 9) l.reverse).reverse
    · exact h1 x hm
    · have hs := List.takeWhile_append_dropWhile (p := fun b : UInt8 => b == 32 || b == 9) (l := l.reverse)
      have : x ∈ l.reverse := by simpa using hx
      rw [← hs] at this
      rcases List.mem_append.1 this with h2 | h2
      · have := List.all_eq_true.1 (List.all_takeWhile (p := fun b : UInt8 => b == 32 || b == 9) (l := l.reverse)) x h2
        exact this
      · exact absurd (by simpa using h2) hm
  · intro h
    rw [List.all_eq_true] at h
    have h1 : List.dropWhile (fun b : UInt8 => b == 32 || b == 9) l.reverse = [] := (dropW_nil _).2 fun x hx => h x (by simpa using hx)
    rw [h1]; rfl

set_option maxRecDepth 100000 in
theorem zeroSet (w : World) : (zeroValue 78).run Tryz.prog w = .ok (.agg (Array.replicate 256 (.bool false))) w := by
  refine (Tryz.zeroValue78 w).trans ?_
  rfl
theorem trimBlanks_any (s : ByteArray) (w : World) (hs : s.size ≤ 9223372036854775807) :
    Calls Tryz.prog 26 #[.string s, .string ⟨#[32, 9]⟩] w fun e w' => e = .returned (.string (S (Lib.trimS (L s) [32, 9]))) ∧ Below w.heap.size w w' :=
  Any.strings_Trim_ascii Tryz.lays160 zeroSet (by kernel_rfl) s ⟨#[32, 9]⟩ w hs (by decide) (fun j b hb => by
    match j with
    | 0 => simp at hb; subst hb; decide
    | 1 => simp at hb; subst hb; decide
    | _ + 2 => simp at hb)
theorem blank_any (s : ByteArray) (w : World) (hs : s.size ≤ 9223372036854775807) :
    Calls Tryz.prog 13 #[.string s] w fun e w' => e = .returned (.bool (blankT (L s))) ∧ Below w.heap.size w w' := by
  have ht := trimS_blank (L s)
  go_enter Tryz.func13, Tryz.ntmps13
  go_wp2_with fail
  refine (trimBlanks_any s _ hs).mono ?_
  rintro e w1 ⟨rfl, b1⟩
  generalize Lib.trimS (L s) [32, 9] = t at *
  cases t with
  | nil =>
    have hb := ht.1 rfl
    have HB := Lib.hid hb
    have hz : S [] = ⟨#[]⟩ := rfl
    rw [hz]
    clear hb hz ht
    go_wp2_with fail
    go_ret
    rw [HB.out]
    exact ⟨rfl, b1⟩
  | cons x t =>
    have hb : blankT (L s) = false := by
      cases h : blankT (L s)
      · rfl
      · have := ht.2 h; cases this
    have HB := Lib.hid hb
    obtain ⟨t1, t2, t3⟩ := bytes_some (a := S (x :: t)) (by simp)
    generalize S (x :: t) = y at *
    clear hb ht
    go_wp2_with fail
    go_ret
    rw [HB.out]
    exact ⟨rfl, b1⟩
end Go.Proofs.YtfjapjoomnallaaGreatDoor
