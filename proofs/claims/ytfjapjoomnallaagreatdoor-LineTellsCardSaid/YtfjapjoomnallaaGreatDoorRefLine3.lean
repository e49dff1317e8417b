/-
  bowdlerref1: Indent, Strip.
-/
import Derived.Test.YtfjapjoomnallaaGreatDoorRefLine2
namespace Go.Proofs.YtfjapjoomnallaaGreatDoor
open Go.RowKit
set_option linter.unusedVariables false

theorem expand_at {l : List UInt8} {k : Nat} (h : k < (expandT l).length) : (k < colT 0 l → (expandT l)[k] = 32) ∧ (k = colT 0 l → (expandT l)[k] ≠ 32) := by
  refine ⟨fun hk => ?_, fun hk => ?_⟩
  · have h1 : (expandT l)[k]? = some 32 := by rw [expandT, List.getElem?_append_left (by simpa using hk), List.getElem?_replicate, if_pos hk]
    exact (List.getElem?_eq_some_iff.1 h1).2
  · have hl : (expandT l).length = colT 0 l + (restT l).length := by simp [expandT]
    have h0 : 0 < (restT l).length := by omega
    have hn := restT_no l ((restT l)[0]'h0) (by rw [List.head?_eq_getElem?, List.getElem?_eq_getElem h0])
    have h1 : (expandT l)[k]? = some ((restT l)[0]'h0) := by rw [expandT, List.getElem?_append_right (by rw [List.length_replicate]; omega), List.length_replicate, hk, Nat.sub_self, List.getElem?_eq_getElem h0]
    rw [(List.getElem?_eq_some_iff.1 h1).2]
    exact hn.1

set_option maxHeartbeats 2000000 in
set_option maxRecDepth 100000 in
theorem refIndent_any (s : ByteArray) (w : World) (hs : s.size ≤ 1048576) :
    Calls Tryz.prog 18 #[.string s] w fun e w' => e = .returned (.int .i64 (colT 0 (L s) : Int)) ∧ w' = w := by
  have he : (S (expandT (L s))).size = colT 0 (L s) + (restT (L s)).length := by simp [expandT]
  have hle := expandT_le (L s)
  have hsz : (S (expandT (L s))).size ≤ 5 * 1048576 := by rw [size_S]; rw [length_L] at hle; omega
  have hcs : colT 0 (L s) ≤ (S (expandT (L s))).size := by omega
  have hat : ∀ (k : Nat) (h : k < (S (expandT (L s))).size), (k < colT 0 (L s) → (S (expandT (L s)))[k] = 32) ∧ (k = colT 0 (L s) → (S (expandT (L s)))[k] ≠ 32) := fun k h => expand_at (by simpa using h)
  have HX := Lib.hid (refExpand_any s w hs)
  generalize S (expandT (L s)) = x at *
  generalize colT 0 (L s) = n at *
  have HAT := Lib.hid hat
  clear hat hle he
  go_enter Tryz.func18, Tryz.ntmps18
  go_wp2_with (go_at_call 16; refine HX.out.mono ?_; rintro e w1 ⟨rfl, rfl⟩)
  go_loop [4] (fun s4 => ∃ k : Nat, k ≤ n ∧ s4 = .int .i64 (k : Int)) (fun s4 => n - (intOf s4).toNat)
  case atStart => exact ⟨0, Nat.zero_le _, rfl⟩
  case round =>
    obtain ⟨k, hk, rfl⟩ := hrel
    by_cases hlt : k < n
    · have hkx : k < x.size := by omega
      have q1 : (((x[k]'hkx).toNat : Int) == 32) = true := by rw [(HAT.out k hkx).1 hlt]; rfl
      go_wp2_with fail
      go_round
      case rel => exact ⟨k + 1, by omega, by go_num⟩
      case measure => simp [intOf]; omega
    · have hkn : k = n := by omega
      subst hkn
      by_cases hkx : k < x.size
      · have q1 : (((x[k]'hkx).toNat : Int) == 32) = false := byte_ne (n := 32) (by omega) (by intro e; exact (HAT.out k hkx).2 rfl e)
        go_wp2_with fail
        go_ret
        exact ⟨rfl, rfl⟩
      · go_wp2_with fail
        go_ret
        exact ⟨rfl, rfl⟩

set_option maxHeartbeats 2000000 in
set_option maxRecDepth 100000 in
theorem refStrip_any (s : ByteArray) (n : Int) (w : World) (hs : s.size ≤ 1048576) (hn : -9223372036854775808 ≤ n ∧ n ≤ 9223372036854775807) :
    Calls Tryz.prog 20 #[.string s, .int .i64 n] w fun e w' => e = .returned (.string (S (stripT (L s) n))) ∧ w' = w := by
  have he : (S (expandT (L s))).size = colT 0 (L s) + (restT (L s)).length := by simp [expandT]
  have hle := expandT_le (L s)
  have hsz : (S (expandT (L s))).size ≤ 5 * 1048576 := by rw [size_S]; rw [length_L] at hle; omega
  have hcs : colT 0 (L s) ≤ (S (expandT (L s))).size := by omega
  have hfin : (S (expandT (L s))).extract (max (min n (colT 0 (L s) : Int)) 0).toNat (S (expandT (L s))).size = S (stripT (L s) n) := by
    apply L_inj
    rw [L_extract, List.take_of_length_le (by simp), L_S, L_S, stripT]
    congr 1
    omega
  obtain ⟨hn1, hn2⟩ := hn
  have HX := Lib.hid (refExpand_any s w hs)
  have HI := Lib.hid (refIndent_any s w hs)
  have HF := Lib.hid hfin
  clear he hle hfin
  generalize S (expandT (L s)) = x at *
  generalize colT 0 (L s) = k at *
  go_enter Tryz.func20, Tryz.ntmps20
  go_wp2_with (first
    | (go_at_call 16; refine HX.out.mono ?_; rintro e w1 ⟨rfl, rfl⟩)
    | (go_at_call 18; refine HI.out.mono ?_; rintro e w2 ⟨rfl, rfl⟩))
  go_ret
  rw [HF.out]
  exact ⟨rfl, rfl⟩
end Go.Proofs.YtfjapjoomnallaaGreatDoor
