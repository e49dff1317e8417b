/-
  bowdlerlaw2.LineTabs: its walk: it answers true, and turns nothing that was there.
-/
import Derived.Test.YthcaphkkhiaoeaaDoorLineCounts
namespace Go.Proofs.YthcaphkkhiaoeaaDoor
open Go.RowKit

theorem rep_succ (n : Nat) (b : UInt8) : S (List.replicate n b) ++ ⟨#[b]⟩ = S (List.replicate (n + 1) b) := by
  apply L_inj; rw [L_append]; simp [S_lit, List.replicate_succ']
theorem noBlank_of {s : ByteArray} (h : s = ⟨#[]⟩ ∨ ∃ h : 0 < s.size, ¬ s[0]'h = 32 ∧ ¬ s[0]'h = 9) : NoBlank (L s) := by
  rcases h with rfl | ⟨h, h1, h2⟩
  · intro b hb; cases hb
  · intro b hb
    have hl : 0 < (L s).length := by simpa using h
    rw [List.head?_eq_getElem?, List.getElem?_eq_getElem hl] at hb
    injection hb with hb
    rw [get_L, hb] at h1 h2
    exact ⟨h1, h2⟩

set_option maxHeartbeats 2000000 in
set_option maxRecDepth 100000 in
theorem lineTabs_walk (n : Int) (s : ByteArray) (w : World) (hg : Glb w) (_ : (Lit.int .i64 n).wf = true) (_ : s.size ≤ 140737488351232) :
    Calls Tryd.prog 6 #[.int .i64 n, .string s] w fun e w' => e = .returned (.bool true) ∧ Below w.heap.size w w' := by
  by_cases hin : (0 ≤ n ∧ n ≤ 20 ∧ s.size ≤ 60) ∧ (s = ⟨#[]⟩ ∨ ∃ h : 0 < s.size, ¬ s[0]'h = 32 ∧ ¬ s[0]'h = 9)
  · obtain ⟨⟨h1, h2, h3⟩, h4⟩ := hin
    obtain ⟨n, rfl⟩ := Int.eq_ofNat_of_zero_le h1
    obtain ⟨hc, hrt⟩ := tab_col n (noBlank_of h4)
    have HX : Hid (L (S (List.replicate n 32) ++ ⟨#[9]⟩ ++ s) = List.replicate n 32 ++ 9 :: L s) := Lib.hid (by rw [L_append, L_append, L_S, L_lit, List.append_assoc]; rfl)
    have HE : Hid (expandT (List.replicate n 32 ++ 9 :: L s) = List.replicate (n / 4 * 4 + 4) 32 ++ L s) := Lib.hid (by rw [expandT, hc, hrt])
    have HC := Lib.hid hc
    clear hc hrt
    have HS : Hid (S (L s) = s) := Lib.hid (S_L s)
    have HZ : Hid (s.size = (L s).length) := Lib.hid (length_L s).symm
    generalize L s = sl at *
    have hcs : s = ⟨#[]⟩ ∨ (∃ h : 0 < s.size, ((s[0]'h).toNat == 32) = false ∧ ((s[0]'h).toNat == 9) = false ∧ (((s[0]'h).toNat : Int) == 32) = false ∧ (((s[0]'h).toNat : Int) == 9) = false) := by
      rcases h4 with h | ⟨h, a, b⟩
      · exact .inl h
      · have a1 := byte_ne (n := 32) (by decide) a
        have b1 := byte_ne (n := 9) (by decide) b
        exact .inr ⟨h, beq_eq_false_iff_ne.2 (fun e => by rw [e] at a1; simp at a1), beq_eq_false_iff_ne.2 (fun e => by rw [e] at b1; simp at b1), a1, b1⟩
    clear h4
    rcases hcs with rfl | ⟨h0, r1, r2, r3, r4⟩
    case' inr => obtain ⟨t1, t2, t3⟩ := bytes_some (a := s) (by omega)
    all_goals
      go_enter Tryd.func6, Tryd.ntmps6
      go_wp2_with fail
      refine (alive_any _ hg).mono ?_
      rintro e w1 ⟨rfl, b1⟩
      have z1 := b1.size
      go_wp2_with fail
      go_loop [5, 6] (fun s5 s6 => ∃ k : Nat, k ≤ n ∧ s6 = .int .i64 k ∧ s5 = .string (S (List.replicate k 32))) (fun _ s6 => n - (intOf s6).toNat)
      case atStart => exact ⟨0, Nat.zero_le _, rfl, rfl⟩
      case round =>
        obtain ⟨k, hk, rfl, rfl⟩ := hrel
        by_cases hlt : k < n
        · have HR := Lib.hid (rep_succ k 32)
          go_wp2_with fail
          go_round
          case rel => exact ⟨k + 1, by omega, by go_num, by rw [HR.out]⟩
          case measure => simp [intOf]; omega
        · have hkn : k = n := by omega
          subst hkn
          obtain ⟨t, ht⟩ : ∃ t, S (List.replicate k 32) = t := ⟨_, rfl⟩
          have hts : t.size = k := by rw [← ht]; simp
          have HX' := HX.out
          rw [ht] at HX' ⊢
          have HX2 := Lib.hid HX'
          have HTS := Lib.hid hts
          have ht20 : t.size ≤ 20 := by omega
          clear HX HX' ht hlt hk hts
          go_wp2_with fail
          have hsl : sl.length ≤ 60 := by have := HZ.out; first | omega | (simp at this; omega)
          refine (expand_any _ _ (by have := HZ.out; simp [ByteArray.size_append, size_lit]; omega)).mono ?_
          rintro e w2 ⟨rfl, b2⟩
          have bb2 := b1.trans (b2.mono z1)
          have z2 := bb2.size
          rw [HX2.out, HE.out]
          have he : (S (List.replicate (k / 4 * 4 + 4) 32 ++ sl)).size = k / 4 * 4 + 4 + sl.length := by simp
          have hx : (S (List.replicate (k / 4 * 4 + 4) 32 ++ sl)).extract ((k : Int) / 4 * 4 + 4).toNat (S (List.replicate (k / 4 * 4 + 4) 32 ++ sl)).size = S sl := by
            apply L_inj
            rw [L_extract, L_S, he, L_S, List.take_of_length_le (by simp), show ((k : Int) / 4 * 4 + 4).toNat = k / 4 * 4 + 4 by omega, List.drop_append, List.drop_eq_nil_of_le (by simp)]
            simp
          rw [HS.out] at hx
          generalize S (List.replicate (k / 4 * 4 + 4) 32 ++ sl) = E at *
          go_wp2_with fail
          refine (indent_any _ _ (by have := HZ.out; simp [ByteArray.size_append, size_lit]; omega)).mono ?_
          rintro e w3 ⟨rfl, b3⟩
          have bb3 := bb2.trans (b3.mono z2)
          rw [HX2.out, HC.out]
          have r5 : (((k / 4 * 4 + 4 : Nat) : Int) == (k : Int) / 4 * 4 + 4) = true := beq_iff_eq.2 (by omega)
          have r6 : ((E.size : Int) == (k : Int) / 4 * 4 + 4 + (sl.length : Int)) = true := beq_iff_eq.2 (by omega)
          rw [← HZ.out] at r6
          have r7 : 0 ≤ (k : Int) / 4 * 4 + 4 := by omega
          have r8 : (k : Int) / 4 * 4 + 4 ≤ (E.size : Int) := by omega
          first | (have r9' : (E.size : Int) = (k : Int) / 4 * 4 + 4 := by (have hz : (0 : Nat) = sl.length := HZ.out; omega)) | skip
          have HEE := Lib.hid he
          clear he b2 b3 bb2
          go_wp2_with fail
          go_ret
          exact ⟨rfl, bb3⟩
  · have hcs : n < 0 ∨ (0 ≤ n ∧ 20 < n) ∨ (0 ≤ n ∧ n ≤ 20 ∧ 60 < s.size) ∨ (0 ≤ n ∧ n ≤ 20 ∧ s.size ≤ 60 ∧ ∃ h : 0 < s.size, s[0]'h = 32) ∨ (0 ≤ n ∧ n ≤ 20 ∧ s.size ≤ 60 ∧ ∃ h : 0 < s.size, ¬ s[0]'h = 32 ∧ s[0]'h = 9) := by
      rcases (by omega : n < 0 ∨ (0 ≤ n ∧ 20 < n) ∨ (0 ≤ n ∧ n ≤ 20 ∧ 60 < s.size) ∨ (0 ≤ n ∧ n ≤ 20 ∧ s.size ≤ 60)) with h | h | h | ⟨h1, h2, h3⟩
      · exact .inl h
      · exact .inr (.inl h)
      · exact .inr (.inr (.inl h))
      · by_cases h0 : 0 < s.size
        · by_cases h32 : s[0]'h0 = 32
          · exact .inr (.inr (.inr (.inl ⟨h1, h2, h3, h0, h32⟩)))
          · by_cases h9 : s[0]'h0 = 9
            · exact .inr (.inr (.inr (.inr ⟨h1, h2, h3, h0, h32, h9⟩)))
            · exact absurd ⟨⟨h1, h2, h3⟩, .inr ⟨h0, h32, h9⟩⟩ hin
        · exact absurd ⟨⟨h1, h2, h3⟩, .inl (bytes_none (by omega))⟩ hin
    clear hin
    rcases hcs with h | ⟨h1, h2⟩ | ⟨h1, h2, h3⟩ | ⟨h1, h2, h3, h4, h5⟩ | ⟨h1, h2, h3, h4, h5, h6⟩
    case' inr.inr.inr.inl => obtain ⟨t1, t2, t3⟩ := bytes_some (a := s) (by omega)
    case' inr.inr.inr.inr =>
      obtain ⟨t1, t2, t3⟩ := bytes_some (a := s) (by omega)
      have q := byte_ne (n := 32) (by decide) h5
      clear h5
    all_goals
      go_enter Tryd.func6, Tryd.ntmps6
      go_wp2_with fail
      refine (alive_any _ hg).mono ?_
      rintro e w1 ⟨rfl, b1⟩
      go_wp2_with fail
      go_ret
      exact ⟨rfl, b1⟩
end Go.Proofs.YthcaphkkhiaoeaaDoor
