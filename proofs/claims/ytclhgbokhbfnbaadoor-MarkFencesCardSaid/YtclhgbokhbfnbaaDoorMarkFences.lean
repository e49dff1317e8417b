/-
  bowdlerlaw8.MarkFences: its walk: it answers true, and turns nothing that was there.
-/
import Derived.Test.YtclhgbokhbfnbaaDoorMarkHeadings
namespace Go.Proofs.YtclhgbokhbfnbaaDoor
open Go.RowKit

set_option maxHeartbeats 4000000 in
set_option maxRecDepth 100000 in
theorem markFences_walk (tilde : Bool) (n m : Int) (s : ByteArray) (w : World) (_ : (Lit.int .i64 n).wf = true) (_ : (Lit.int .i64 m).wf = true) (_ : s.size ≤ 140737488351232) :
    Calls Tryd.prog 8 #[.bool tilde, .int .i64 n, .int .i64 m, .string s] w fun e w' => e = .returned (.bool true) ∧ Below w.heap.size w w' := by
  by_cases hin : 1 ≤ n ∧ n ≤ 9 ∧ 1 ≤ m ∧ m ≤ 12 ∧ s.size ≤ 30
  · obtain ⟨h1, h2, h3, h4, h7⟩ := hin
    obtain ⟨n, rfl⟩ := Int.eq_ofNat_of_zero_le (a := n) (by omega)
    obtain ⟨m, rfl⟩ := Int.eq_ofNat_of_zero_le (a := m) (by omega)
    obtain ⟨c, hc⟩ : ∃ c : UInt8, c = if tilde then 126 else 96 := ⟨_, rfl⟩
    have hc2 : c = 96 ∨ c = 126 := by cases tilde <;> simp_all
    have HCC := Lib.hid hc
    have HC2 := Lib.hid hc2
    clear hc hc2
    go_enter Tryd.func8, Tryd.ntmps8
    go_wp2_with fail
    refine (alive_any _).mono ?_
    rintro e w1 ⟨rfl, b1⟩
    have z1 := b1.size
    go_upto_if 43 with fail
    go_cut [9] (fun s9 wx => s9 = .string ⟨#[c]⟩ ∧ wx = w1)
    case first =>
      have e1 := HCC.out
      cases tilde
      all_goals
        simp only [if_true, if_false, Bool.false_eq_true] at e1
        subst e1
        go_wp2_with fail
        go_meet
        exact ⟨rfl, rfl⟩
    case rest =>
      obtain ⟨rfl, rfl⟩ := hcut
      generalize wc = w1 at *
      go_wp2_with fail
      go_loop [10] (fun s9 => ∃ k : Nat, k ≤ s.size ∧ s9 = .int .i64 k ∧ Az ((L s).take k)) (fun s9 => s.size - (intOf s9).toNat)
      case atStart => exact ⟨0, Nat.zero_le _, rfl, fun b hb => by simp at hb⟩
      case round =>
        obtain ⟨k, hk, rfl, haz⟩ := hrel
        have HAZ := Lib.hid haz
        clear haz
        by_cases hlt : k < s.size
        · by_cases hb : 97 ≤ (s[k]'hlt).toNat ∧ (s[k]'hlt).toNat ≤ 122
          · have HT := Lib.hid (az_take s hlt hb HAZ.out)
            have q1 : decide (((s[k]'hlt).toNat : Int) < 97) = false := decide_eq_false (by omega)
            have q2 : decide (122 < ((s[k]'hlt).toNat : Int)) = false := decide_eq_false (by omega)
            go_wp2_with fail
            go_round
            case rel => exact ⟨k + 1, by omega, by go_num, HT.out⟩
            case measure => simp [intOf]; omega
          · have hq : decide (((s[k]'hlt).toNat : Int) < 97) = true ∨ (decide (((s[k]'hlt).toNat : Int) < 97) = false ∧ decide (122 < ((s[k]'hlt).toNat : Int)) = true) := by
              by_cases h97 : (s[k]'hlt).toNat < 97
              · exact .inl (decide_eq_true (by omega))
              · exact .inr ⟨decide_eq_false (by omega), decide_eq_true (by omega)⟩
            clear hb
            rcases hq with q1 | ⟨q1, q2⟩
            all_goals
              go_wp2_with fail
              go_ret
              exact ⟨rfl, b1⟩
        · have hks : k = s.size := by omega
          subst hks
          have haz := HAZ.out
          rw [List.take_of_length_le (by simp)] at haz
          have hlow := az_low haz
          have HF : Hid (fenceT (L (S (List.replicate n c) ++ ⟨#[32]⟩ ++ s)) = if 3 ≤ n then some (c, n, L s) else none) := Lib.hid (by
            rw [L_append, L_append, L_S, L_lit, List.append_assoc]
            exact fence_law (by omega) HC2.out hlow)
          have HK1 : Hid (closesT (L (S (List.replicate m c) ++ ⟨#[32, 32]⟩)) c (n : Int) = decide ((n : Int) ≤ (m : Int))) := Lib.hid (by
            rw [L_append, L_S, L_lit, closes_law _ (by omega) HC2.out (fun b hb => by
              simp at hb; subst hb
              rcases HC2.out with h | h <;> rw [h] <;> decide)]
            rw [show max (n : Int) 1 = n by omega]
            simp [isB])
          have HK2 : Hid (closesT (L (S (List.replicate m c) ++ ⟨#[120]⟩)) c (n : Int) = false) := Lib.hid (by
            rw [L_append, L_S, L_lit, closes_law _ (by omega) HC2.out (fun b hb => by
              simp at hb; subst hb
              rcases HC2.out with h | h <;> rw [h] <;> decide)]
            simp [isB])
          have HS : Hid (S (L s) = s) := Lib.hid (S_L s)
          clear haz hlow HAZ hlt hk
          go_wp2_with fail
          go_loop [11, 13] (fun s11 s13 => ∃ k : Nat, k ≤ n ∧ s13 = .int .i64 k ∧ s11 = .string (S (List.replicate k c))) (fun _ s13 => n - (intOf s13).toNat)
          case atStart => exact ⟨0, Nat.zero_le _, rfl, rfl⟩
          case round =>
            obtain ⟨k, hk, rfl, rfl⟩ := hrel
            by_cases hlt : k < n
            · have HR := Lib.hid (rep_succ k c)
              go_wp2_with fail
              go_round
              case rel => exact ⟨k + 1, by omega, by go_num, by rw [HR.out]⟩
              case measure => simp [intOf]; omega
            · have hkn : k = n := by omega
              subst hkn
              have hts : (S (List.replicate k c)).size ≤ 9 := by simp; omega
              obtain ⟨t, ht⟩ : ∃ t, S (List.replicate k c) = t := ⟨_, rfl⟩
              have hf := HF.out
              rw [ht] at hf hts ⊢
              clear HF
              have HF := Lib.hid hf
              clear hf ht hlt
              go_wp2_with fail
              go_loop [12, 14] (fun s12 s14 => ∃ j : Nat, j ≤ m ∧ s14 = .int .i64 j ∧ s12 = .string (S (List.replicate j c))) (fun _ s14 => m - (intOf s14).toNat)
              case atStart => exact ⟨0, Nat.zero_le _, rfl, rfl⟩
              case round =>
                obtain ⟨j, hj, rfl, rfl⟩ := hrel
                by_cases hlt : j < m
                · have HR := Lib.hid (rep_succ j c)
                  go_wp2_with fail
                  go_round
                  case rel => exact ⟨j + 1, by omega, by go_num, by rw [HR.out]⟩
                  case measure => simp [intOf]; omega
                · have hjm : j = m := by omega
                  subst hjm
                  have hus : (S (List.replicate j c)).size ≤ 12 := by simp; omega
                  obtain ⟨u, hu⟩ : ∃ u, S (List.replicate j c) = u := ⟨_, rfl⟩
                  have hk1 := HK1.out
                  have hk2 := HK2.out
                  rw [hu] at hk1 hk2 hus ⊢
                  clear HK1 HK2
                  have HK1 := Lib.hid hk1
                  have HK2 := Lib.hid hk2
                  have hc2 := HC2.out
                  clear hk1 hk2 hu hlt HCC HC2
                  have g : ∀ (h : 0 < (⟨#[c]⟩ : ByteArray).size), (⟨#[c]⟩ : ByteArray)[0]'h = c := fun _ => rfl
                  have hc128 : c.toNat < 128 := by rcases hc2 with h | h <;> rw [h] <;> decide
                  clear hc2
                  go_wp2_with fail
                  refine (fence_any _ _ (by simp [ByteArray.size_append, size_lit]; omega)).mono ?_
                  rintro e w2 ⟨rfl, b2⟩
                  rw [HF.out]
                  have bb2 := b1.trans (b2.mono z1)
                  have z2 := bb2.size
                  clear b1 b2
                  by_cases h3' : 3 ≤ k
                  · rw [if_pos h3']
                    simp only [fenceV]
                    rw [HS.out]
                    have q3 : decide (3 ≤ (k : Int)) = true := decide_eq_true (by omega)
                    go_wp2_with fail
                    refine (closes_any _ c (k : Int) _ (by simp [ByteArray.size_append, size_lit]; omega) hc128 (by omega)).mono ?_
                    rintro e w3 ⟨rfl, b3⟩
                    rw [HK1.out]
                    have bb3 := bb2.trans (b3.mono z2)
                    have z3 := bb3.size
                    clear bb2 b3
                    go_wp2_with fail
                    refine (closes_any _ c (k : Int) _ (by simp [ByteArray.size_append, size_lit]; omega) hc128 (by omega)).mono ?_
                    rintro e w4 ⟨rfl, b4⟩
                    rw [HK2.out]
                    have bb4 := bb3.trans (b4.mono z3)
                    clear bb3 b4
                    go_wp2_with fail
                    go_ret
                    exact ⟨rfl, bb4⟩
                  · rw [if_neg h3']
                    simp only [fenceV]
                    have q3 : decide (3 ≤ (k : Int)) = false := decide_eq_false (by omega)
                    go_wp2_with fail
                    refine (closes_any _ c (k : Int) _ (by simp [ByteArray.size_append, size_lit]; omega) hc128 (by omega)).mono ?_
                    rintro e w3 ⟨rfl, b3⟩
                    rw [HK1.out]
                    have bb3 := bb2.trans (b3.mono z2)
                    have z3 := bb3.size
                    clear bb2 b3
                    go_wp2_with fail
                    refine (closes_any _ c (k : Int) _ (by simp [ByteArray.size_append, size_lit]; omega) hc128 (by omega)).mono ?_
                    rintro e w4 ⟨rfl, b4⟩
                    rw [HK2.out]
                    have bb4 := bb3.trans (b4.mono z3)
                    clear bb3 b4
                    go_wp2_with fail
                    go_ret
                    exact ⟨rfl, bb4⟩
  · have hcs : n < 1 ∨ (1 ≤ n ∧ 9 < n) ∨ (1 ≤ n ∧ n ≤ 9 ∧ m < 1) ∨ (1 ≤ n ∧ n ≤ 9 ∧ 1 ≤ m ∧ 12 < m) ∨ (1 ≤ n ∧ n ≤ 9 ∧ 1 ≤ m ∧ m ≤ 12 ∧ 30 < s.size) := by omega
    clear hin
    rcases hcs with h | ⟨h1, h2⟩ | ⟨h1, h2, h3⟩ | ⟨h1, h2, h3, h4⟩ | ⟨h1, h2, h3, h4, h5⟩
    all_goals
      go_enter Tryd.func8, Tryd.ntmps8
      go_wp2_with fail
      refine (alive_any _).mono ?_
      rintro e w1 ⟨rfl, b1⟩
      go_wp2_with fail
      go_ret
      exact ⟨rfl, b1⟩
end Go.Proofs.YtclhgbokhbfnbaaDoor
