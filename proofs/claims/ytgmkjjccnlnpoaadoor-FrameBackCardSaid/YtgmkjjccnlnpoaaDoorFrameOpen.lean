/-
  frame.opens, frame.shuts: their contracts.
-/
import Derived.Test.YtgmkjjccnlnpoaaDoorFrameLabel
namespace Go.Proofs.YtgmkjjccnlnpoaaDoor
open Go.RowKit

def openL : List UInt8 := [58, 58, 58, 123]
/-- the label of a line that opens a division -/
def opensT (l : List UInt8) : List UInt8 × Bool :=
  if Lib.hasPrefix (Lib.trimRightB l 32) openL then
    (Lib.trimSuffix ((Lib.trimRightB l 32).drop 4) [125], Lib.hasSuffix ((Lib.trimRightB l 32).drop 4) [125] && labelT (Lib.trimSuffix ((Lib.trimRightB l 32).drop 4) [125]))
  else ([], false)
def shutsT (l : List UInt8) : Bool := decide (Lib.trimRightB l 32 = [58, 58, 58])

theorem trimR_le (l : List UInt8) : (Lib.trimRightB l 32).length ≤ l.length := by
  unfold Lib.trimRightB
  have := (List.dropWhile_sublist (fun x => x == (32 : UInt8)) (l := l.reverse)).length_le
  simpa using this
theorem trimSuf_le (l p : List UInt8) : (Lib.trimSuffix l p).length ≤ l.length := by
  unfold Lib.trimSuffix
  split
  · simp
  · exact Nat.le_refl _

set_option maxHeartbeats 1000000 in
set_option maxRecDepth 100000 in
theorem opens_any (s : ByteArray) (w : World) (hs : s.size ≤ 9223372036854775807) :
    Calls Tryd.prog 25 #[.string s] w fun e w' => e = .returned (.tuple #[.string (S (opensT (L s)).1), .bool (opensT (L s)).2]) ∧ Below w.heap.size w w' := by
  have hT := trimR_le (L s)
  rw [length_L] at hT
  have h1 : Hid (∀ w, Calls Tryd.prog 17 #[.string s, .string ⟨#[32]⟩] w fun e w' => e = .returned (.string (S (Lib.trimRightB (L s) 32))) ∧ w = w') := Lib.hid fun w => trimRight1_any s 32 (by decide) w hs
  unfold opensT
  generalize Lib.trimRightB (L s) 32 = t at *
  have h2 : Hid (∀ w, Calls Tryd.prog 44 #[.string (S t), .string ⟨#[58, 58, 58, 123]⟩] w fun e w' => e = .returned (.tuple #[.string (S (Lib.trimPrefix t openL)), .bool (Lib.hasPrefix t openL)]) ∧ w' = w) := Lib.hid fun w => Tryd.strings_CutPrefix (S t) ⟨#[58, 58, 58, 123]⟩ w
  cases hp : Lib.hasPrefix t openL
  · rw [hp] at h2
    go_enter Tryd.func25, Tryd.ntmps25
    go_wp2_with fail
    refine (h1.out _).mono ?_
    rintro e w1 ⟨rfl, rfl⟩
    go_wp2_with fail
    refine (h2.out _).mono ?_
    rintro e w1 ⟨rfl, rfl⟩
    go_wp2_with fail
    go_ret2
    exact ⟨rfl, Below.refl _ _⟩
  · have htp : Lib.trimPrefix t openL = t.drop 4 := by unfold Lib.trimPrefix; rw [hp]; rfl
    rw [hp, htp] at h2
    rw [if_pos rfl]
    have hd : (t.drop 4).length ≤ t.length := by simp
    generalize t.drop 4 = r at *
    have h3 : Hid (∀ w, Calls Tryd.prog 16 #[.string (S r), .string ⟨#[125]⟩] w fun e w' => e = .returned (.tuple #[.string (S (Lib.trimSuffix r [125])), .bool (Lib.hasSuffix r [125])]) ∧ w' = w) := Lib.hid fun w => Tryd.strings_CutSuffix (S r) ⟨#[125]⟩ w (by simp [S]; omega)
    have hq := trimSuf_le r [125]
    generalize Lib.trimSuffix r [125] = q at *
    have h4 : Hid (∀ w, Calls Tryd.prog 19 #[.string (S q)] w fun e w' => e = .returned (.bool (labelT q)) ∧ Below w.heap.size w w') := Lib.hid fun w => by
      have := label_any (S q) w (by simp [S]; omega)
      rwa [L_S] at this
    cases hs2 : Lib.hasSuffix r [125]
    · rw [hs2] at h3
      go_enter Tryd.func25, Tryd.ntmps25
      go_wp2_with fail
      refine (h1.out _).mono ?_
      rintro e w1 ⟨rfl, rfl⟩
      go_wp2_with fail
      refine (h2.out _).mono ?_
      rintro e w1 ⟨rfl, rfl⟩
      go_wp2_with fail
      refine (h3.out _).mono ?_
      rintro e w1 ⟨rfl, rfl⟩
      go_wp2_with fail
      go_ret2
      exact ⟨rfl, Below.refl _ _⟩
    · rw [hs2] at h3
      rw [Bool.true_and]
      go_enter Tryd.func25, Tryd.ntmps25
      go_wp2_with fail
      refine (h1.out _).mono ?_
      rintro e w1 ⟨rfl, rfl⟩
      go_wp2_with fail
      refine (h2.out _).mono ?_
      rintro e w1 ⟨rfl, rfl⟩
      go_wp2_with fail
      refine (h3.out _).mono ?_
      rintro e w1 ⟨rfl, rfl⟩
      go_wp2_with fail
      refine (h4.out _).mono ?_
      rintro e w1 ⟨rfl, b1⟩
      go_wp2_with fail
      go_ret2
      exact ⟨rfl, b1⟩

set_option maxHeartbeats 1000000 in
set_option maxRecDepth 100000 in
theorem shuts_any (s : ByteArray) (w : World) (hs : s.size ≤ 9223372036854775807) :
    Calls Tryd.prog 26 #[.string s] w fun e w' => e = .returned (.bool (shutsT (L s))) ∧ Below w.heap.size w w' := by
  have h1 : Hid (∀ w, Calls Tryd.prog 17 #[.string s, .string ⟨#[32]⟩] w fun e w' => e = .returned (.string (S (Lib.trimRightB (L s) 32))) ∧ w = w') := Lib.hid fun w => trimRight1_any s 32 (by decide) w hs
  unfold shutsT
  generalize Lib.trimRightB (L s) 32 = t at *
  by_cases ht : t = [58, 58, 58]
  · subst ht
    go_enter Tryd.func26, Tryd.ntmps26
    go_wp2_with fail
    refine (h1.out _).mono ?_
    rintro e w1 ⟨rfl, rfl⟩
    rw [show S [58, 58, 58] = (⟨#[58, 58, 58]⟩ : ByteArray) from rfl]
    go_wp2_with fail
    go_ret
    exact ⟨rfl, Below.refl _ _⟩
  · rw [decide_eq_false ht]
    have hne : ¬ S t = (⟨#[58, 58, 58]⟩ : ByteArray) := fun h => ht (by have := congrArg L h; rwa [L_S] at this)
    obtain ⟨t1, t2, t3⟩ := bytes_ne hne
    rw [show (⟨#[58, 58, 58]⟩ : ByteArray).toList = [58, 58, 58] by rw [ByteArray.toList_eq]] at t2 t3
    generalize S t = st at *
    clear ht hne
    go_enter Tryd.func26, Tryd.ntmps26
    go_wp2_with fail
    refine (h1.out _).mono ?_
    rintro e w1 ⟨rfl, rfl⟩
    go_wp2_with fail
    go_ret
    exact ⟨rfl, Below.refl _ _⟩
end Go.Proofs.YtgmkjjccnlnpoaaDoor
