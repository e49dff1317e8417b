/-
  bowdlerref14.Esc: its contract.
-/
import Derived.Test.YtfdfpimilmhhoaaEscape
import Derived.WalkMore
namespace Go.Proofs.Ytfdfpimilmhhoaa
open Go.RowKit
set_option linter.unusedVariables false

theorem ref_ne {x : UInt8} {n : Nat} (hn : n < 256) (h : ¬ x = n.toUInt8) : ((x.toNat : Int) == (n : Int)) = false := by
  rw [beq_eq_false_iff_ne]
  intro e
  apply h
  apply UInt8.toNat_inj.1
  have : n.toUInt8.toNat = n := by simp; omega
  omega
theorem esc_step {l : List UInt8} {k : Nat} {b : UInt8} (hb : l[k]? = some b) : esc (l.take (k + 1)) = esc (l.take k) ++ escB b := by
  rw [List.take_add_one, hb, Option.toList_some, esc_append]
  simp [esc]

set_option maxHeartbeats 4000000 in
set_option maxRecDepth 100000 in
theorem refEsc_any (s : ByteArray) (w : World) (hs : s.size ≤ 1099511627776) :
    Calls Try.prog 36 #[.string s] w fun e w' => e = .returned (.string (S (esc (L s)))) ∧ w' = w := by
  go_enter Try.func36, Try.ntmps36
  go_wp2_with fail
  go_loop [3, 4] (fun s3 s4 => ∃ (k : Nat) (acc : ByteArray), k ≤ s.size ∧ s4 = .int .i64 (k : Int) ∧ s3 = .string acc ∧ acc.size ≤ 6 * k ∧ Hid (acc = S (esc ((L s).take k)))) (fun _ s4 => s.size - (intOf s4).toNat)
  case atStart => exact ⟨0, ⟨#[]⟩, Nat.zero_le _, rfl, rfl, Nat.zero_le _, Lib.hid rfl⟩
  case round =>
    obtain ⟨k, acc, hk, rfl, rfl, hac, HA⟩ := hrel
    by_cases hlt : k < s.size
    · have hil : k < (L s).length := by simpa using hlt
      obtain ⟨b, hb⟩ : ∃ b, s[k]'hlt = b := ⟨_, rfl⟩
      have hST := esc_step (l := L s) (k := k) (b := b) (by rw [List.getElem?_eq_getElem hil, ← hb]; rfl)
      have HB := Lib.hid hb
      clear hb
      by_cases h38 : b = 38
      · have q38 : (((s[k]'hlt).toNat : Int) == 38) = true := by rw [HB.out, h38]; rfl
        have p1 : ¬ 9223372036854775807 < acc.size + 5 := by omega
        have hz : (acc ++ (⟨#[38, 97, 109, 112, 59]⟩ : ByteArray)).size ≤ 6 * (k + 1) := by rw [ByteArray.size_append]; show acc.size + 5 ≤ _; omega
        have HE : Hid (acc ++ ⟨#[38, 97, 109, 112, 59]⟩ = S (esc ((L s).take (k + 1)))) := Lib.hid (by rw [hST, HA.out, h38]; apply L_inj; rw [L_append, L_S, L_S]; rfl)
        clear hST h38
        go_wp2_with fail
        go_round
        case rel => exact ⟨k + 1, _, by omega, by go_num, rfl, hz, HE⟩
        case measure => simp [intOf]; omega
      · have q38 : (((s[k]'hlt).toNat : Int) == 38) = false := by rw [HB.out]; exact ref_ne (n := 38) (by omega) (by intro e; exact h38 e)
        by_cases h60 : b = 60
        · have q60 : (((s[k]'hlt).toNat : Int) == 60) = true := by rw [HB.out, h60]; rfl
          have p1 : ¬ 9223372036854775807 < acc.size + 4 := by omega
          have hz : (acc ++ (⟨#[38, 108, 116, 59]⟩ : ByteArray)).size ≤ 6 * (k + 1) := by rw [ByteArray.size_append]; show acc.size + 4 ≤ _; omega
          have HE : Hid (acc ++ ⟨#[38, 108, 116, 59]⟩ = S (esc ((L s).take (k + 1)))) := Lib.hid (by rw [hST, HA.out, h60]; apply L_inj; rw [L_append, L_S, L_S]; rfl)
          clear hST h60
          go_wp2_with fail
          go_round
          case rel => exact ⟨k + 1, _, by omega, by go_num, rfl, hz, HE⟩
          case measure => simp [intOf]; omega
        · have q60 : (((s[k]'hlt).toNat : Int) == 60) = false := by rw [HB.out]; exact ref_ne (n := 60) (by omega) (by intro e; exact h60 e)
          by_cases h62 : b = 62
          · have q62 : (((s[k]'hlt).toNat : Int) == 62) = true := by rw [HB.out, h62]; rfl
            have p1 : ¬ 9223372036854775807 < acc.size + 4 := by omega
            have hz : (acc ++ (⟨#[38, 103, 116, 59]⟩ : ByteArray)).size ≤ 6 * (k + 1) := by rw [ByteArray.size_append]; show acc.size + 4 ≤ _; omega
            have HE : Hid (acc ++ ⟨#[38, 103, 116, 59]⟩ = S (esc ((L s).take (k + 1)))) := Lib.hid (by rw [hST, HA.out, h62]; apply L_inj; rw [L_append, L_S, L_S]; rfl)
            clear hST h62
            go_wp2_with fail
            go_round
            case rel => exact ⟨k + 1, _, by omega, by go_num, rfl, hz, HE⟩
            case measure => simp [intOf]; omega
          · have q62 : (((s[k]'hlt).toNat : Int) == 62) = false := by rw [HB.out]; exact ref_ne (n := 62) (by omega) (by intro e; exact h62 e)
            by_cases h34 : b = 34
            · have q34 : (((s[k]'hlt).toNat : Int) == 34) = true := by rw [HB.out, h34]; rfl
              have p1 : ¬ 9223372036854775807 < acc.size + 6 := by omega
              have hz : (acc ++ (⟨#[38, 113, 117, 111, 116, 59]⟩ : ByteArray)).size ≤ 6 * (k + 1) := by rw [ByteArray.size_append]; show acc.size + 6 ≤ _; omega
              have HE : Hid (acc ++ ⟨#[38, 113, 117, 111, 116, 59]⟩ = S (esc ((L s).take (k + 1)))) := Lib.hid (by rw [hST, HA.out, h34]; apply L_inj; rw [L_append, L_S, L_S]; rfl)
              clear hST h34
              go_wp2_with fail
              go_round
              case rel => exact ⟨k + 1, _, by omega, by go_num, rfl, hz, HE⟩
              case measure => simp [intOf]; omega
            · have q34 : (((s[k]'hlt).toNat : Int) == 34) = false := by rw [HB.out]; exact ref_ne (n := 34) (by omega) (by intro e; exact h34 e)
              by_cases h0 : b = 0
              · have q0 : (((s[k]'hlt).toNat : Int) == 0) = true := by rw [HB.out, h0]; rfl
                have hz : acc.size ≤ 6 * (k + 1) := by omega
                have HE : Hid (acc = S (esc ((L s).take (k + 1)))) := Lib.hid (by rw [hST, HA.out, h0]; apply L_inj; rw [L_S, L_S]; exact (List.append_nil _).symm)
                clear hST h0
                go_wp2_with fail
                go_round
                case rel => exact ⟨k + 1, acc, by omega, by go_num, rfl, hz, HE⟩
                case measure => simp [intOf]; omega
              · have q0 : (((s[k]'hlt).toNat : Int) == 0) = false := by rw [HB.out]; exact ref_ne (n := 0) (by omega) (by intro e; exact h0 e)
                have hx : L (s.extract k (k + 1)) = [b] := by
                  rw [L_extract, List.drop_take, show k + 1 - k = 1 by omega, List.drop_eq_getElem_cons hil]
                  have : (L s)[k]'hil = b := by rw [← HB.out]; rfl
                  simp [this]
                have hxs : (s.extract k (k + 1)).size = 1 := by have := congrArg List.length hx; simpa using this
                have p1 : ¬ 9223372036854775807 < acc.size + (s.extract k (k + 1)).size := by omega
                have hz : (acc ++ s.extract k (k + 1)).size ≤ 6 * (k + 1) := by rw [ByteArray.size_append]; omega
                have HE : Hid (acc ++ s.extract k (k + 1) = S (esc ((L s).take (k + 1)))) := Lib.hid (by rw [hST, HA.out]; apply L_inj; rw [L_append, L_S, L_S, hx]; congr 1; unfold escB; rw [if_neg h38, if_neg h60, if_neg h62, if_neg h34, if_neg h0])
                obtain ⟨k1, hk1⟩ : ∃ k1, k + 1 = k1 := ⟨_, rfl⟩
                have hki : (k : Int) + 1 = (k1 : Int) := by omega
                have hk2 : k ≤ k1 := by omega
                have hk3 : k1 ≤ s.size := by omega
                rw [hk1] at p1 hz HE
                have HK := Lib.hid hk1
                clear hST h38 h60 h62 h34 h0 hx hxs hk1
                go_wp2_with fail
                go_round
                case rel => exact ⟨k1, _, hk3, rfl, rfl, hz, HE⟩
                case measure => have := HK.out; simp [intOf]; omega
    · have hks : k = s.size := by omega
      subst hks
      have hE : Hid (acc = S (esc (L s))) := Lib.hid (by rw [HA.out, List.take_of_length_le (by simp)])
      go_wp2_with fail
      go_ret
      rw [hE.out]
      exact ⟨rfl, rfl⟩
end Go.Proofs.Ytfdfpimilmhhoaa
