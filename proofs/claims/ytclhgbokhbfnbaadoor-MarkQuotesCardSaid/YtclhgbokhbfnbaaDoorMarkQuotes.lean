/-
  bowdlerlaw8.MarkQuotes: its walk: it answers true, and turns nothing that was there.
-/
import Derived.Test.YtclhgbokhbfnbaaDoorMarkFour
namespace Go.Proofs.YtclhgbokhbfnbaaDoor
open Go.RowKit

theorem want_cases (s : ByteArray) : (s = ⟨#[]⟩ ∧ S (Lib.trimPrefix (L s) [32]) = s) ∨ (∃ h : 0 < s.size, s[0]'h = 32 ∧ S (Lib.trimPrefix (L s) [32]) = s.extract 1 s.size) ∨ (∃ h : 0 < s.size, ¬ s[0]'h = 32 ∧ S (Lib.trimPrefix (L s) [32]) = s) := by
  by_cases h0 : s.size = 0
  · have := bytes_none h0
    subst this
    exact .inl ⟨rfl, rfl⟩
  · have hlt : 0 < s.size := by omega
    have hl : 0 < (L s).length := by simpa using hlt
    have hd : L s = (L s)[0]'hl :: (L s).drop 1 := by
      have := List.drop_eq_getElem_cons hl
      simpa using this
    have hg : s[0]'hlt = (L s)[0]'hl := get_L s 0 hlt
    rcases prefix1 (L s) 32 with ⟨r, h1, h2, h3⟩ | ⟨h1, h2⟩
    · refine .inr (.inl ⟨hlt, ?_, ?_⟩)
      · rw [hg]
        rw [hd] at h1
        injection h1
      · rw [h3]
        apply L_inj
        rw [L_S, L_extract, List.take_of_length_le (by simp), h1]; rfl
    · refine .inr (.inr ⟨hlt, fun e => h2 ((L s).drop 1) ?_, ?_⟩)
      · rw [hg] at e
        conv => lhs; rw [hd]
        rw [e]
      · unfold Lib.trimPrefix; rw [h1]; simp

set_option maxHeartbeats 2000000 in
set_option maxRecDepth 100000 in
theorem markQuotes_walk (n : Int) (s : ByteArray) (w : World) (_ : (Lit.int .i64 n).wf = true) (_ : s.size ≤ 140737488351232) :
    Calls Tryd.prog 7 #[.int .i64 n, .string s] w fun e w' => e = .returned (.bool true) ∧ Below w.heap.size w w' := by
  by_cases hin : 0 ≤ n ∧ n ≤ 3 ∧ s.size ≤ 60
  · obtain ⟨h1, h2, h3⟩ := hin
    obtain ⟨n, rfl⟩ := Int.eq_ofNat_of_zero_le (a := n) (by omega)
    have HA : Hid (quoteT (L (S (List.replicate n 32) ++ ⟨#[62]⟩ ++ s)) = some (Lib.trimPrefix (L s) [32])) := Lib.hid (by
      rw [L_append, L_append, L_S, L_lit, List.append_assoc]; exact quote_law n (L s) (by omega))
    have HB : Hid (quoteT (L (S (List.replicate n 32) ++ ⟨#[62, 32]⟩ ++ s)) = some (L s)) := Lib.hid (by
      rw [L_append, L_append, L_S, L_lit, List.append_assoc]
      have := quote_law n (32 :: L s) (by omega)
      rw [show (([62, 32] : List UInt8) ++ L s) = 62 :: (32 :: L s) from rfl, this]
      unfold Lib.trimPrefix Lib.hasPrefix
      simp [List.isPrefixOf])
    have HS : Hid (S (L s) = s) := Lib.hid (S_L s)
    have hw := want_cases s
    have HW := Lib.hid hw
    clear hw
    go_enter Tryd.func7, Tryd.ntmps7
    go_wp2_with fail
    refine (alive_any _).mono ?_
    rintro e w1 ⟨rfl, b1⟩
    have z1 := b1.size
    go_wp2_with fail
    go_loop [5, 6] (fun s5 s6 => ∃ k : Nat, k ≤ n ∧ s6 = .int .i64 k ∧ s5 = .string (S (List.replicate k 32))) (fun _ s6 => n - (intOf s6).toNat)
    case atStart => exact ⟨0, Nat.zero_le _, rfl, rfl⟩
    case round =>
      obtain ⟨k, hk, rfl, rfl⟩ := hrel
      by_cases hlt : k < n
      · have HR := Lib.hid (rep_succ k 32)
        go_wp2_with fail
        go_round
        case rel => exact ⟨k + 1, by omega, by go_num, by rw [HR.out]⟩
        case measure => simp [intOf]; omega
      · have hkn : k = n := by omega
        subst hkn
        obtain ⟨t, ht⟩ : ∃ t, S (List.replicate k 32) = t := ⟨_, rfl⟩
        have hts : t.size ≤ 3 := by rw [← ht]; simp; omega
        have ha := HA.out
        have hb := HB.out
        rw [ht] at ha hb ⊢
        clear HA HB ht hlt
        have HA := Lib.hid ha
        have HB := Lib.hid hb
        clear ha hb
        go_wp2_with fail
        refine (quote_any _ _ (by simp [ByteArray.size_append, size_lit]; omega)).mono ?_
        rintro e w2 ⟨rfl, b2⟩
        rw [HA.out]
        simp only [quoteV]
        have bb2 := b1.trans (b2.mono z1)
        have z2 := bb2.size
        clear b1 b2
        obtain ⟨P, hP⟩ : ∃ P, S (Lib.trimPrefix (L s) [32]) = P := ⟨_, rfl⟩
        have hw := HW.out
        rw [hP] at hw ⊢
        clear hP HW
        have HW := Lib.hid hw
        clear hw
        go_wp2_with fail
        refine (quote_any _ _ (by simp [ByteArray.size_append, size_lit]; omega)).mono ?_
        rintro e w3 ⟨rfl, b3⟩
        rw [HB.out]
        simp only [quoteV]
        rw [HS.out]
        have bb3 := bb2.trans (b3.mono z2)
        clear bb2 b3 HA HB HS
        rcases HW.out with ⟨rfl, rfl⟩ | ⟨g0, g1, rfl⟩ | ⟨g0, g1, rfl⟩
        case' inr.inl =>
          obtain ⟨t1, t2, t3⟩ := bytes_some (a := s) (by omega)
          have r1 : (1 : Int) ≤ (s.size : Int) := by omega
        case' inr.inr =>
          obtain ⟨t1, t2, t3⟩ := bytes_some (a := P) (by omega)
          have q : (((P[0]'g0).toNat : Int) == 32) = false := byte_ne (n := 32) (by decide) g1
        all_goals clear HW
        all_goals go_wp2_with fail
        all_goals go_ret
        all_goals exact ⟨rfl, bb3⟩
  · rcases (by omega : n < 0 ∨ (0 ≤ n ∧ 3 < n) ∨ (0 ≤ n ∧ n ≤ 3 ∧ 60 < s.size)) with h | ⟨h1, h2⟩ | ⟨h1, h2, h3⟩
    all_goals
      clear hin
      go_enter Tryd.func7, Tryd.ntmps7
      go_wp2_with fail
      refine (alive_any _).mono ?_
      rintro e w1 ⟨rfl, b1⟩
      go_wp2_with fail
      go_ret
      exact ⟨rfl, b1⟩
end Go.Proofs.YtclhgbokhbfnbaaDoor
