/-
  bowdlerlaw14.EmphSigns: its walk: it answers true, and turns nothing that was there.
-/
import Derived.Test.YtlpkfeapgpkkhaaEmphThrees
namespace Go.Proofs.Ytlpkfeapgpkkhaa
open Go.RowKit

def signsS (n m : Nat) : List UInt8 := List.replicate n 42 ++ [119] ++ List.replicate m 95
theorem signs_fin : ∀ n m : Fin 10, 1 ≤ n.val → 1 ≤ m.val → groupT [rowPc 42 (n.val : Int) true true, nodePc none 0 0 wordW, rowPc 95 (m.val : Int) true true] = [⟨1, 0, S (signsS n.val m.val), ⟨#[]⟩, ⟨#[]⟩⟩] := by
  decide +kernel
theorem signs_g (n m : Nat) (h : 1 ≤ n ∧ n ≤ 9 ∧ 1 ≤ m ∧ m ≤ 9) : groupT [rowPc 42 (n : Int) true true, nodePc none 0 0 wordW, rowPc 95 (m : Int) true true] = [⟨1, 0, S (signsS n m), ⟨#[]⟩, ⟨#[]⟩⟩] :=
  signs_fin ⟨n, by omega⟩ ⟨m, by omega⟩ (by simp; omega) (by simp; omega)

theorem rep_succ (n : Nat) (b : UInt8) : S (List.replicate n b) ++ ⟨#[b]⟩ = S (List.replicate (n + 1) b) := by
  apply L_inj; rw [L_append]; simp [S_lit, List.replicate_succ']
theorem rep_more (l : List UInt8) (n : Nat) (b : UInt8) : S (l ++ List.replicate n b) ++ ⟨#[b]⟩ = S (l ++ List.replicate (n + 1) b) := by
  apply L_inj; rw [L_append]; simp [S_lit, List.replicate_succ']

set_option maxHeartbeats 1000000 in
set_option maxRecDepth 100000 in
theorem emphSigns_walk (n m : Int) (w : World) (_ : (Lit.int .i64 n).wf = true) (_ : (Lit.int .i64 m).wf = true) :
    Calls Try.prog 10 #[.int .i64 n, .int .i64 m] w fun e w' => e = .returned (.bool true) ∧ Below w.heap.size w w' := by
  by_cases hin : 1 ≤ n ∧ n ≤ 9 ∧ 1 ≤ m ∧ m ≤ 9
  · obtain ⟨n, rfl⟩ := Int.eq_ofNat_of_zero_le (a := n) (by omega)
    obtain ⟨m, rfl⟩ := Int.eq_ofNat_of_zero_le (a := m) (by omega)
    have HK := Lib.hid (signs_g n m (by omega))
    obtain ⟨h1, h2, h3, h4⟩ := hin
    have q1 : decide ((n : Int) < 1) = false := decide_eq_false (by omega)
    have q2 : decide (9 < (n : Int)) = false := decide_eq_false (by omega)
    have q3 : decide ((m : Int) < 1) = false := decide_eq_false (by omega)
    have q4 : decide (9 < (m : Int)) = false := decide_eq_false (by omega)
    go_enter Try.func10, Try.ntmps10
    go_wp2_with fail
    refine (alive_any _).mono ?_
    rintro e w1 ⟨rfl, b1⟩
    have z1 := b1.size
    go_wp2_with fail
    refine (group3_any (w1.heap.size + 1 + 1) w1.heap.size 42 95 n m true true true true 1 wordW _ (by omega) (by omega) (by omega) (by simp [wordW, txtLen]) (Blk.new' _ _ _ _ (by simp)) ?_).mono ?_
    · exact (((reads_new w1 _ _ 5 1 _ rfl rfl).alloc (by simp) _).alloc (by simp) _).more (by simp)
    rintro e w2 ⟨A1, c1, rfl, hown, b2⟩
    have bb2 : Below w.heap.size w w2 := (((b1.alloc z1 _).alloc (by simp; omega) _).alloc (by simp; omega) _).trans (b2.mono (by simp; omega))
    rw [HK.out] at hown ⊢
    obtain ⟨g, rfl, _, _⟩ := hown.some_ (by simp)
    have c0 := hown.cell (j := 0) rfl
    have c1 := hown.cell (j := 1) rfl
    have c2 := hown.cell (j := 2) rfl
    have c3 := hown.cell (j := 3) rfl
    have c4 := hown.cell (j := 4) rfl
    simp only [List.length_cons, List.length_nil]
    clear b2 hown b1 z1 HK
    go_wp2_with fail
    go_loop [7, 8] (fun s7 i => ∃ k : Nat, k ≤ n ∧ i = .int .i64 k ∧ s7 = .string (S (List.replicate k 42))) (fun _ i => n - (intOf i).toNat)
    case atStart => exact ⟨0, Nat.zero_le _, rfl, rfl⟩
    case round =>
      obtain ⟨k, hk, rfl, rfl⟩ := hrel
      by_cases hlt : k < n
      · have HR := Lib.hid (rep_succ k 42)
        go_wp2_with fail
        go_round
        case rel => exact ⟨k + 1, by omega, by go_num, by rw [HR.out]⟩
        case measure => simp [intOf]; omega
      · have hkn : k = n := by omega
        subst hkn
        have HR0 := Lib.hid (show S (List.replicate k 42) ++ ⟨#[119]⟩ = S (List.replicate k 42 ++ [119] ++ List.replicate 0 95) by apply L_inj; rw [L_append]; simp [S_lit])
        clear hlt hk
        go_wp2_with fail
        go_loop [7, 9] (fun s7 i => ∃ j : Nat, j ≤ m ∧ i = .int .i64 j ∧ s7 = .string (S (List.replicate k 42 ++ [119] ++ List.replicate j 95))) (fun _ i => m - (intOf i).toNat)
        case atStart => exact ⟨0, Nat.zero_le _, rfl, by rw [← HR0.out]⟩
        case round =>
          obtain ⟨j, hj, rfl, rfl⟩ := hrel
          by_cases hlt : j < m
          · have HR := Lib.hid (rep_more (List.replicate k 42 ++ [119]) j 95)
            have hsz : (S (List.replicate k 42 ++ [119] ++ List.replicate j 95)).size ≤ 20 := by simp; omega
            generalize hx : S (List.replicate k 42 ++ [119] ++ List.replicate j 95) = x at *
            have HX := Lib.hid hx
            clear hx
            go_wp2_with fail
            go_round
            case rel => exact ⟨j + 1, by omega, by go_num, by rw [← HR.out]⟩
            case measure => simp [intOf]; omega
          · have hjm : j = m := by omega
            subst hjm
            have hq : S (signsS k j) = S (List.replicate k 42 ++ [119] ++ List.replicate j 95) := rfl
            rw [hq] at c2
            clear hq
            generalize S (List.replicate k 42 ++ [119] ++ List.replicate j 95) = x at *
            go_wp2_with fail
            go_ret
            exact ⟨rfl, bb2⟩
  · rcases (by omega : n < 1 ∨ (1 ≤ n ∧ m < 1) ∨ (1 ≤ n ∧ 1 ≤ m ∧ 9 < n) ∨ (1 ≤ n ∧ 1 ≤ m ∧ n ≤ 9 ∧ 9 < m)) with h | ⟨h1, h2⟩ | ⟨h1, h2, h3⟩ | ⟨h1, h2, h3, h4⟩
    all_goals
      clear hin
      go_enter Try.func10, Try.ntmps10
      go_wp2_with fail
      refine (alive_any _).mono ?_
      rintro e w1 ⟨rfl, b1⟩
      go_wp2_with fail
      go_ret
      exact ⟨rfl, b1⟩
end Go.Proofs.Ytlpkfeapgpkkhaa
