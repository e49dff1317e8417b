/-
  emph.Text: its contract: the text of nodes.
-/
import Derived.Test.YtfdfpimilmhhoaaGroupLaws
namespace Go.Proofs.Ytfdfpimilmhhoaa
open Go.RowKit

theorem textT_snoc (l : List Inl) (x : Inl) : textT (l ++ [x]) = textT l ++ textB x := by simp [textT]
theorem textT_take (l : List Inl) (k : Nat) : (textT (l.take k)).length ≤ (textT l).length := by
  conv => rhs; rw [← List.take_append_drop k l]
  simp only [textT, List.flatMap_append, List.length_append]
  omega

set_option maxHeartbeats 4000000 in
set_option maxRecDepth 100000 in
theorem text_any (A : Option Addr) (n c : Nat) (l : List Inl) (w : World) (hr : Reads w w.heap.size 5 A n (inlCells l)) (hn : n ≤ 1073741824) (ht : (textT l).length ≤ 140737488355328) :
    Calls Try.prog 28 #[.slice A n c] w fun e w' => e = .returned (.string (S (textT l))) ∧ Below w.heap.size w w' := by
  have hlen : l.length = n := by have := hr.1; rw [flat_length _ 5 inl_len] at this; omega
  have HL := Lib.hid hlen
  clear hlen
  go_enter Try.func28, Try.ntmps28
  go_wp2_with fail
  go_loopw [8] (fun i wr => ∃ (k : Nat), k ≤ n ∧ i = .int .i64 k ∧ Bld w.heap.size w.heap.size (textT (l.take k)) wr ∧ Below w.heap.size w wr)
    (fun i _ => n - (intOf i).toNat)
  case atStart => exact ⟨0, Nat.zero_le _, rfl, Bld.new w, (Below.refl _ _).alloc (Nat.le_refl _) _⟩
  case round =>
    obtain ⟨k, hk, rfl, hB, hb⟩ := hrel
    by_cases hlt : k < n
    · obtain ⟨x, hx⟩ : ∃ x, l[k]? = some x := ⟨_, List.getElem?_eq_getElem (by rw [HL.out]; omega)⟩
      obtain ⟨ad, rfl, _, _, g0, g1, g2, g3, g4⟩ := (hr.below hb).inl hx
      have hbs := hb.size
      have HK : Hid (textT (l.take (k + 1)) = textT (l.take k) ++ textB x) := Lib.hid (by
        rw [List.take_add_one, hx, Option.toList_some, textT_snoc])
      have hle : (textT (l.take k)).length + (textB x).length ≤ 140737488355328 := by
        have := textT_take l (k + 1)
        rw [HK.out, List.length_append] at this
        omega
      clear hx
      generalize textT (l.take k) = kl at *
      by_cases h1 : x.kind = 1 ∨ x.kind = 2 ∨ x.kind = 6
      · have hX : textB x = L x.text := by unfold textB; rw [if_pos h1]
        rw [hX, length_L] at hle
        have HX := Lib.hid hX
        clear hX
        rcases h1 with h1 | h1 | h1
        all_goals
          have q1 := h1
          clear h1
          rw [q1] at g0
          go_wp2_with fail
          refine (writeString_any w.heap.size w.heap.size kl x.text _ (hB.alloc _) hle (by simp; omega)).mono ?_
          rintro e w1 ⟨rfl, hB1, b1, k1⟩
          have hb1 := (hb.alloc hbs _).trans b1
          go_wp2_with fail
          go_roundw
          case rel => exact ⟨k + 1, by omega, by go_num, by rw [HK.out, HX.out]; exact hB1, hb1⟩
          case measure => simp [intOf]; omega
      · simp only [not_or] at h1
        obtain ⟨h1, h2, h6⟩ := h1
        have q1 : (x.kind == 1) = false := beq_eq_false_iff_ne.2 h1
        have q2 : (x.kind == 2) = false := beq_eq_false_iff_ne.2 h2
        have q6 : (x.kind == 6) = false := beq_eq_false_iff_ne.2 h6
        by_cases h7 : x.kind = 7 ∨ x.kind = 8
        · have hX : textB x = [32] := by unfold textB; rw [if_neg (by simp [h1, h2, h6]), if_pos h7]
          rw [hX] at hle
          have HX := Lib.hid hX
          clear hX h1 h2 h6
          rcases h7 with h7 | h7
          all_goals
            have q7 := h7
            clear h7
            rw [q7] at g0 q1 q2 q6
            go_wp2_with fail
            refine (writeByte_any w.heap.size w.heap.size kl 32 _ (hB.alloc _) hle (by simp; omega)).mono ?_
            rintro e w1 ⟨rfl, hB1, b1, k1⟩
            have hb1 := (hb.alloc hbs _).trans b1
            go_wp2_with fail
            go_roundw
            case rel => exact ⟨k + 1, by omega, by go_num, by rw [HK.out, HX.out]; exact hB1, hb1⟩
            case measure => simp [intOf]; omega
        · have hX : textB x = [] := by unfold textB; rw [if_neg (by simp [h1, h2, h6]), if_neg h7]
          simp only [not_or] at h7
          have q7 : (x.kind == 7) = false := beq_eq_false_iff_ne.2 h7.1
          have q8 : (x.kind == 8) = false := beq_eq_false_iff_ne.2 h7.2
          have HX := Lib.hid hX
          clear hX h1 h2 h6 h7
          go_wp2_with fail
          go_roundw
          case rel => exact ⟨k + 1, by omega, by go_num, by rw [HK.out, HX.out, List.append_nil]; exact hB.alloc _, hb.alloc hbs _⟩
          case measure => simp [intOf]; omega
    · go_wp2_with fail
      refine (string_any w.heap.size w.heap.size _ _ hB hb.size).mono ?_
      rintro e w1 ⟨rfl, hB1, b1, k1⟩
      have : k = n := by omega
      subst this
      rw [List.take_of_length_le (by rw [HL.out]; omega)]
      go_wp2_with fail
      go_ret
      exact ⟨rfl, hb.trans b1⟩
end Go.Proofs.Ytfdfpimilmhhoaa
