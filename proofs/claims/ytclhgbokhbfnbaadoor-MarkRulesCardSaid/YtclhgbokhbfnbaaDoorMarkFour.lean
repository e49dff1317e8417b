/-
  bowdlerlaw8.MarkFour: its walk: it answers true, and turns nothing that was there.
-/
import Derived.Test.YtclhgbokhbfnbaaDoorMark6
import Derived.Test.YtclhgbokhbfnbaaDoorMarkLaws
namespace Go.Proofs.YtclhgbokhbfnbaaDoor
open Go.RowKit

theorem rep_succ (n : Nat) (b : UInt8) : S (List.replicate n b) ++ ⟨#[b]⟩ = S (List.replicate (n + 1) b) := by
  apply L_inj; rw [L_append]; simp [S_lit, List.replicate_succ']

set_option maxHeartbeats 2000000 in
set_option maxRecDepth 100000 in
theorem markFour_walk (s : ByteArray) (n : Int) (w : World) (_ : s.size ≤ 140737488351232) (_ : (Lit.int .i64 n).wf = true) :
    Calls Tryd.prog 9 #[.string s, .int .i64 n] w fun e w' => e = .returned (.bool true) ∧ Below w.heap.size w w' := by
  by_cases hin : s.size ≤ 100 ∧ 4 ≤ n ∧ n ≤ 20
  · obtain ⟨h1, h2, h3⟩ := hin
    obtain ⟨n, rfl⟩ := Int.eq_ofNat_of_zero_le (a := n) (by omega)
    have HF : Hid (4 ≤ colT 0 (L (S (List.replicate n 32) ++ s))) := Lib.hid (by rw [L_append, L_S]; exact four_col n (L s) (by omega))
    go_enter Tryd.func9, Tryd.ntmps9
    go_wp2_with fail
    refine (alive_any _).mono ?_
    rintro e w1 ⟨rfl, b1⟩
    have z1 := b1.size
    go_wp2_with fail
    go_loop [5, 6] (fun s5 s6 => ∃ k : Nat, k ≤ n ∧ s6 = .int .i64 k ∧ s5 = .string (S (List.replicate k 32))) (fun _ s6 => n - (intOf s6).toNat)
    case atStart => exact ⟨0, Nat.zero_le _, rfl, rfl⟩
    case round =>
      obtain ⟨k, hk, rfl, rfl⟩ := hrel
      by_cases hlt : k < n
      · have HR := Lib.hid (rep_succ k 32)
        go_wp2_with fail
        go_round
        case rel => exact ⟨k + 1, by omega, by go_num, by rw [HR.out]⟩
        case measure => simp [intOf]; omega
      · have hkn : k = n := by omega
        subst hkn
        obtain ⟨t, ht⟩ : ∃ t, S (List.replicate k 32) = t := ⟨_, rfl⟩
        have hts : t.size ≤ 20 := by rw [← ht]; simp; omega
        have hf := HF.out
        rw [ht] at hf ⊢
        clear HF ht hlt
        have HF := Lib.hid hf
        clear hf
        obtain ⟨T, hT⟩ : ∃ T, t ++ s = T := ⟨_, rfl⟩
        have hTs : T.size ≤ 120 := by rw [← hT, ByteArray.size_append]; omega
        have hf := HF.out
        rw [hT] at hf
        clear HF
        go_wp2_with fail
        clear hT
        refine (heading_any T _ (by omega) (fun h => absurd h (by omega))).mono ?_
        rintro e w2 ⟨rfl, b2⟩
        rw [heading_far hf]
        simp only [headV]
        have bb2 := b1.trans (b2.mono z1)
        have z2 := bb2.size
        clear b1 b2
        go_wp2_with fail
        refine (fence_any T _ (by omega)).mono ?_
        rintro e w3 ⟨rfl, b3⟩
        rw [fence_far hf]
        simp only [fenceV]
        have bb3 := bb2.trans (b3.mono z2)
        have z3 := bb3.size
        clear bb2 b3
        go_wp2_with fail
        refine (quote_any T _ (by omega)).mono ?_
        rintro e w4 ⟨rfl, b4⟩
        rw [quote_far hf]
        simp only [quoteV]
        have bb4 := bb3.trans (b4.mono z3)
        have z4 := bb4.size
        clear bb3 b4
        go_wp2_with fail
        refine (item_any T _ (by omega) (fun h => absurd h (by omega))).mono ?_
        rintro e w5 ⟨rfl, b5⟩
        rw [item_far hf]
        simp only [itemV]
        have bb5 := bb4.trans (b5.mono z4)
        have z5 := bb5.size
        clear bb4 b5
        go_wp2_with fail
        refine (rule_any T _ (by omega) (fun h => absurd h (by omega))).mono ?_
        rintro e w6 ⟨rfl, b6⟩
        rw [rule_far hf]
        have bb6 := bb5.trans (b6.mono z5)
        have z6 := bb6.size
        clear bb5 b6
        go_wp2_with fail
        refine (under_any T _ (by omega)).mono ?_
        rintro e w7 ⟨rfl, b7⟩
        rw [under_far hf]
        have bb7 := bb6.trans (b7.mono z6)
        have z7 := bb7.size
        clear bb6 b7
        go_wp2_with fail
        refine (html_far_any T _ (by omega) hf).mono ?_
        rintro e w8 ⟨rfl, b8⟩
        have bb8 := bb7.trans (b8.mono z7)
        have z8 := bb8.size
        clear bb7 b8
        go_wp2_with fail
        refine (closes_any T 126 1 _ (by omega) (by decide) (by omega)).mono ?_
        rintro e w9 ⟨rfl, b9⟩
        rw [closes_far 126 1 hf]
        have bb9 := bb8.trans (b9.mono z8)
        clear bb8 b9
        go_wp2_with fail
        go_ret
        exact ⟨rfl, bb9⟩
  · rcases (by omega : 100 < s.size ∨ (s.size ≤ 100 ∧ n < 4) ∨ (s.size ≤ 100 ∧ 4 ≤ n ∧ 20 < n)) with h | ⟨h1, h2⟩ | ⟨h1, h2, h3⟩
    all_goals
      clear hin
      go_enter Tryd.func9, Tryd.ntmps9
      go_wp2_with fail
      refine (alive_any _).mono ?_
      rintro e w1 ⟨rfl, b1⟩
      go_wp2_with fail
      go_ret
      exact ⟨rfl, b1⟩
end Go.Proofs.YtclhgbokhbfnbaaDoor
