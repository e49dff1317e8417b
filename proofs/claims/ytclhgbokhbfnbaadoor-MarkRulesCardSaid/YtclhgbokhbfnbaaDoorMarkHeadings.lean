/-
  bowdlerlaw8.MarkHeadings: its walk: it answers true, and turns nothing that was there.
-/
import Derived.Test.YtclhgbokhbfnbaaDoorMarkFour
namespace Go.Proofs.YtclhgbokhbfnbaaDoor
open Go.RowKit

/-- small letters alone -/
def Az (l : List UInt8) : Prop := ∀ b ∈ l, 97 ≤ b.toNat ∧ b.toNat ≤ 122
theorem az_low {l : List UInt8} (h : Az l) : Low l := fun b hb => by
  have := h b hb
  refine ⟨?_, ?_, ?_, ?_⟩ <;> (rintro rfl; revert this; decide)
theorem az_take (x : ByteArray) {j : Nat} (h : j < x.size) (hn : 97 ≤ (x[j]'h).toNat ∧ (x[j]'h).toNat ≤ 122) (ih : Az ((L x).take j)) : Az ((L x).take (j + 1)) := by
  have hl : j < (L x).length := by simpa using h
  intro b hb
  rw [List.take_add_one, List.getElem?_eq_getElem hl, Option.toList_some, List.mem_append, List.mem_singleton] at hb
  rcases hb with hb | rfl
  · exact ih b hb
  · exact hn
theorem hd_text {b n : Nat} {l : List UInt8} (hb : b ≤ 3) (hn : 1 ≤ n) (hl : Low l) : headingT (List.replicate b 32 ++ (List.replicate n 35 ++ (32 :: (l ++ [32, 32])))) = if n ≤ 6 then some (n, l) else none := by
  by_cases h6 : n ≤ 6
  · rw [heading_some _ hb hn h6 (.inr rfl), heading_text n hl, if_pos h6]
  · rw [heading_none _ (fun x hx => by simp at hx; subst hx; decide) (by omega), if_neg h6]
theorem hd_signs {b n m : Nat} {l : List UInt8} (hb : b ≤ 3) (hn : 1 ≤ n) (hl : Low l) (h0 : l ≠ []) (hm : 1 ≤ m) :
    headingT (List.replicate b 32 ++ (List.replicate n 35 ++ (32 :: (l ++ (32 :: (List.replicate m 35 ++ [32, 32])))))) = if n ≤ 6 then some (n, l) else none := by
  by_cases h6 : n ≤ 6
  · rw [heading_some _ hb hn h6 (.inr rfl), heading_signs n m hl h0 hm, if_pos h6]
  · rw [heading_none _ (fun x hx => by simp at hx; subst hx; decide) (by omega), if_neg h6]
theorem rest_mem {l : List UInt8} {b : UInt8} (h : b ∈ restT l) : b ∈ l := (List.dropWhile_sublist _).subset h
theorem app_rep (Y : ByteArray) (n : Nat) (b : UInt8) : Y ++ S (List.replicate n b) ++ ⟨#[b]⟩ = Y ++ S (List.replicate (n + 1) b) := by
  apply L_inj; rw [L_append, L_append, L_append]; simp [S_lit, List.replicate_succ']
theorem app_nil (Y : ByteArray) : Y ++ S [] = Y := by apply L_inj; rw [L_append]; simp

set_option maxHeartbeats 4000000 in
set_option maxRecDepth 100000 in
theorem markHeadings_walk (n m bl : Int) (s : ByteArray) (w : World) (_ : (Lit.int .i64 n).wf = true) (_ : (Lit.int .i64 m).wf = true) (_ : (Lit.int .i64 bl).wf = true) (_ : s.size ≤ 140737488351232) :
    Calls Tryd.prog 3 #[.int .i64 n, .int .i64 m, .int .i64 bl, .string s] w fun e w' => e = .returned (.bool true) ∧ Below w.heap.size w w' := by
  by_cases hin : 1 ≤ n ∧ n ≤ 9 ∧ 0 ≤ m ∧ m ≤ 9 ∧ 0 ≤ bl ∧ bl ≤ 3 ∧ s.size ≤ 40
  · obtain ⟨h1, h2, h3, h4, h5, h6, h7⟩ := hin
    obtain ⟨n, rfl⟩ := Int.eq_ofNat_of_zero_le (a := n) (by omega)
    obtain ⟨m, rfl⟩ := Int.eq_ofNat_of_zero_le (a := m) (by omega)
    obtain ⟨bl, rfl⟩ := Int.eq_ofNat_of_zero_le (a := bl) (by omega)
    go_enter Tryd.func3, Tryd.ntmps3
    go_wp2_with fail
    refine (alive_any _).mono ?_
    rintro e w1 ⟨rfl, b1⟩
    have z1 := b1.size
    go_wp2_with fail
    go_loop [9] (fun s9 => ∃ k : Nat, k ≤ s.size ∧ s9 = .int .i64 k ∧ Az ((L s).take k)) (fun s9 => s.size - (intOf s9).toNat)
    case atStart => exact ⟨0, Nat.zero_le _, rfl, fun b hb => by simp at hb⟩
    case round =>
      obtain ⟨k, hk, rfl, haz⟩ := hrel
      have HAZ := Lib.hid haz
      clear haz
      by_cases hlt : k < s.size
      · by_cases hb : 97 ≤ (s[k]'hlt).toNat ∧ (s[k]'hlt).toNat ≤ 122
        · have HT := Lib.hid (az_take s hlt hb HAZ.out)
          have q1 : decide (((s[k]'hlt).toNat : Int) < 97) = false := decide_eq_false (by omega)
          have q2 : decide (122 < ((s[k]'hlt).toNat : Int)) = false := decide_eq_false (by omega)
          go_wp2_with fail
          go_round
          case rel => exact ⟨k + 1, by omega, by go_num, HT.out⟩
          case measure => simp [intOf]; omega
        · have hq : decide (((s[k]'hlt).toNat : Int) < 97) = true ∨ (decide (((s[k]'hlt).toNat : Int) < 97) = false ∧ decide (122 < ((s[k]'hlt).toNat : Int)) = true) := by
            by_cases h97 : (s[k]'hlt).toNat < 97
            · exact .inl (decide_eq_true (by omega))
            · exact .inr ⟨decide_eq_false (by omega), decide_eq_true (by omega)⟩
          clear hb
          rcases hq with q1 | ⟨q1, q2⟩
          all_goals
            go_wp2_with fail
            go_ret
            exact ⟨rfl, b1⟩
      · have hks : k = s.size := by omega
        subst hks
        have haz := HAZ.out
        rw [List.take_of_length_le (by simp)] at haz
        have hlow := az_low haz
        have h128 : ∀ b ∈ L s, b.toNat < 128 := fun b hb => by have := haz b hb; omega
        have HT1 := Lib.hid (hd_text (b := bl) (n := n) (by omega) (by omega) hlow)
        have HT2 : Hid (L s ≠ [] → 1 ≤ m → headingT (List.replicate bl 32 ++ (List.replicate n 35 ++ (32 :: (L s ++ (32 :: (List.replicate m 35 ++ [32, 32])))))) = if n ≤ 6 then some (n, L s) else none) := Lib.hid (fun h0 hm => hd_signs (by omega) (by omega) hlow h0 hm)
        have H128 := Lib.hid h128
        have HS : Hid (S (L s) = s) := Lib.hid (S_L s)
        clear haz hlow h128 HAZ hlt hk
        go_wp2_with fail
        go_loop [10, 11] (fun s10 s11 => ∃ k : Nat, k ≤ bl ∧ s11 = .int .i64 k ∧ s10 = .string (S (List.replicate k 32))) (fun _ s11 => bl - (intOf s11).toNat)
        case atStart => exact ⟨0, Nat.zero_le _, rfl, rfl⟩
        case round =>
          obtain ⟨k, hk, rfl, rfl⟩ := hrel
          by_cases hlt : k < bl
          · have HR := Lib.hid (rep_succ k 32)
            go_wp2_with fail
            go_round
            case rel => exact ⟨k + 1, by omega, by go_num, by rw [HR.out]⟩
            case measure => simp [intOf]; omega
          · have hkn : k = bl := by omega
            subst hkn
            have HR0 := Lib.hid (app_nil (S (List.replicate k 32)))
            have hsz : (S (List.replicate k 32)).size ≤ 3 := by simp; omega
            obtain ⟨t, ht⟩ : ∃ t, S (List.replicate k 32) = t := ⟨_, rfl⟩
            have HTL : Hid (L t = List.replicate k 32) := Lib.hid (by rw [← ht]; simp)
            rw [ht] at hsz HR0 ⊢
            clear ht hlt
            go_wp2_with fail
            go_loop [10, 12] (fun s10 s12 => ∃ j : Nat, j ≤ n ∧ s12 = .int .i64 j ∧ s10 = .string (t ++ S (List.replicate j 35))) (fun _ s12 => n - (intOf s12).toNat)
            case atStart => exact ⟨0, Nat.zero_le _, rfl, by rw [List.replicate_zero, HR0.out]⟩
            case round =>
              obtain ⟨j, hj, rfl, rfl⟩ := hrel
              have hsz2 : (t ++ S (List.replicate j 35)).size ≤ 12 := by rw [ByteArray.size_append]; simp; omega
              by_cases hlt : j < n
              · have HR := Lib.hid (app_rep t j 35)
                generalize hx : t ++ S (List.replicate j 35) = x at *
                have HX := Lib.hid hx
                clear hx
                go_wp2_with fail
                go_round
                case rel => exact ⟨j + 1, by omega, by go_num, by rw [HR.out]⟩
                case measure => simp [intOf]; omega
              · have hjn : j = n := by omega
                subst hjn
                obtain ⟨u, hu⟩ : ∃ u, t ++ S (List.replicate j 35) = u := ⟨_, rfl⟩
                have HUL : Hid (L u = List.replicate k 32 ++ List.replicate j 35) := Lib.hid (by rw [← hu, L_append, HTL.out, L_S])
                rw [hu] at hsz2 ⊢
                clear hu hlt HTL HR0
                have hzs : (u ++ (⟨#[32]⟩ ++ s)).size ≤ 60 := by rw [ByteArray.size_append, ByteArray.size_append, size_lit]; simp; omega
                have hZL : L (u ++ (⟨#[32]⟩ ++ s)) = List.replicate k 32 ++ (List.replicate j 35 ++ (32 :: L s)) := by
                  rw [L_append, L_append, HUL.out, L_lit, List.append_assoc]; rfl
                have hus : u.size + 1 + s.size ≤ 60 := by rw [ByteArray.size_append, ByteArray.size_append, size_lit] at hzs; simp at hzs; omega
                go_upto_region 18 with fail
                obtain ⟨Z, hZ⟩ : ∃ Z, u ++ (⟨#[32]⟩ ++ s) = Z := ⟨_, rfl⟩
                rw [hZ] at hzs hZL ⊢
                have HZL := Lib.hid hZL
                clear hZ hZL
                by_cases hA : 1 ≤ m ∧ ¬ s.size = 0
                · obtain ⟨hm, hs0⟩ := hA
                  have HTT := Lib.hid (HT2.out (fun e => hs0 (by have := congrArg List.length e; simpa using this)) hm)
                  obtain ⟨t1, t2, t3⟩ := bytes_some hs0
                  have HY0 := Lib.hid (app_nil (Z ++ ⟨#[32]⟩))
                  have hys : (Z ++ ⟨#[32]⟩).size ≤ 61 := by rw [ByteArray.size_append, size_lit]; simp; omega
                  obtain ⟨Y, hY⟩ : ∃ Y, Z ++ ⟨#[32]⟩ = Y := ⟨_, rfl⟩
                  have HYL : Hid (L Y = List.replicate k 32 ++ (List.replicate j 35 ++ (32 :: (L s ++ [32])))) := Lib.hid (by rw [← hY, L_append, HZL.out]; show List.replicate k 32 ++ (List.replicate j 35 ++ (32 :: L s)) ++ [32] = _; simp)
                  have HY := Lib.hid hY
                  rw [hY] at hys HY0
                  clear hY hs0 HT1 HT2
                  go_wp2_with fail
                  rw [HY.out]
                  go_loop [10, 13] (fun s10 s13 => ∃ i : Nat, i ≤ m ∧ s13 = .int .i64 i ∧ s10 = .string (Y ++ S (List.replicate i 35))) (fun _ s13 => m - (intOf s13).toNat)
                  case atStart => exact ⟨0, Nat.zero_le _, rfl, by rw [List.replicate_zero, HY0.out]⟩
                  case round =>
                    obtain ⟨i, hi, rfl, rfl⟩ := hrel
                    have hsz3 : (Y ++ S (List.replicate i 35)).size ≤ 71 := by rw [ByteArray.size_append]; simp; omega
                    by_cases hlt : i < m
                    · have HR := Lib.hid (app_rep Y i 35)
                      generalize hx : Y ++ S (List.replicate i 35) = x at *
                      have HX := Lib.hid hx
                      clear hx
                      go_wp2_with fail
                      go_round
                      case rel => exact ⟨i + 1, by omega, by go_num, by rw [HR.out]⟩
                      case measure => simp [intOf]; omega
                    · have him : i = m := by omega
                      subst him
                      have HW : Hid (L (Y ++ S (List.replicate i 35) ++ ⟨#[32, 32]⟩) = List.replicate k 32 ++ (List.replicate j 35 ++ (32 :: (L s ++ (32 :: (List.replicate i 35 ++ [32, 32])))))) := Lib.hid (by
                        rw [L_append, L_append, HYL.out, L_S]; show List.replicate k 32 ++ (List.replicate j 35 ++ (32 :: (L s ++ [32]))) ++ List.replicate i 35 ++ [32, 32] = _; simp)
                      have HB : Hid (∀ b ∈ L (Y ++ S (List.replicate i 35) ++ ⟨#[32, 32]⟩), b.toNat < 128) := Lib.hid (by
                        rw [HW.out]
                        intro b hb
                        simp only [List.mem_append, List.mem_cons, List.mem_replicate, List.mem_nil_iff, or_false] at hb
                        rcases hb with ⟨_, rfl⟩ | ⟨_, rfl⟩ | rfl | hb | rfl | ⟨_, rfl⟩ | rfl | rfl
                        all_goals first | exact H128.out _ hb | decide)
                      have hWs : (Y ++ S (List.replicate i 35) ++ ⟨#[32, 32]⟩).size ≤ 1048576 := by rw [ByteArray.size_append, size_lit]; simp; omega
                      generalize Y ++ S (List.replicate i 35) = y2 at *
                      clear hlt HYL HY0
                      go_wp2_with fail
                      refine (heading_any _ _ (by first | exact hWs | omega) (fun _ b hb => HB.out b (rest_mem hb))).mono ?_
                      rintro e w2 ⟨rfl, b2⟩
                      rw [HW.out, HTT.out]
                      have bb2 := b1.trans (b2.mono z1)
                      by_cases h6 : j ≤ 6
                      · rw [if_pos h6]
                        simp only [headV]
                        rw [HS.out]
                        clear b1 b2
                        go_wp2_with fail
                        go_ret
                        exact ⟨rfl, bb2⟩
                      · rw [if_neg h6]
                        simp only [headV]
                        clear b1 b2
                        go_wp2_with fail
                        go_ret
                        exact ⟨rfl, bb2⟩
                · have HTT := HT1
                  have HW : Hid (L (Z ++ ⟨#[32, 32]⟩) = List.replicate k 32 ++ (List.replicate j 35 ++ (32 :: (L s ++ [32, 32])))) := Lib.hid (by
                    rw [L_append, HZL.out]; show List.replicate k 32 ++ (List.replicate j 35 ++ (32 :: L s)) ++ [32, 32] = _; simp)
                  have HB : Hid (∀ b ∈ L (Z ++ ⟨#[32, 32]⟩), b.toNat < 128) := Lib.hid (by
                    rw [HW.out]
                    intro b hb
                    simp only [List.mem_append, List.mem_cons, List.mem_replicate, List.mem_nil_iff, or_false] at hb
                    rcases hb with ⟨_, rfl⟩ | ⟨_, rfl⟩ | rfl | hb | rfl | rfl
                    all_goals first | exact H128.out _ hb | decide)
                  have hWs : (Z ++ ⟨#[32, 32]⟩).size ≤ 1048576 := by rw [ByteArray.size_append, size_lit]; simp; omega
                  have hcs : m = 0 ∨ (1 ≤ m ∧ s = ⟨#[]⟩) := by
                    by_cases hm : m = 0
                    · exact .inl hm
                    · exact .inr ⟨by omega, bytes_none (by omega)⟩
                  clear hA HT1 HT2 HZL HUL hus
                  rcases hcs with rfl | ⟨hm, rfl⟩
                  all_goals
                    go_wp2_with fail
                    refine (heading_any _ _ (by first | exact hWs | omega) (fun _ b hb => HB.out b (rest_mem hb))).mono ?_
                    rintro e w2 ⟨rfl, b2⟩
                    rw [HW.out, HTT.out]
                    have bb2 := b1.trans (b2.mono z1)
                    by_cases h6 : j ≤ 6
                    · rw [if_pos h6]
                      simp only [headV]
                      rw [HS.out]
                      clear b1 b2
                      go_wp2_with fail
                      go_ret
                      exact ⟨rfl, bb2⟩
                    · rw [if_neg h6]
                      simp only [headV]
                      clear b1 b2
                      go_wp2_with fail
                      go_ret
                      exact ⟨rfl, bb2⟩
  · have hcs : n < 1 ∨ (1 ≤ n ∧ 9 < n) ∨ (1 ≤ n ∧ n ≤ 9 ∧ m < 0) ∨ (1 ≤ n ∧ n ≤ 9 ∧ 0 ≤ m ∧ 9 < m) ∨ (1 ≤ n ∧ n ≤ 9 ∧ 0 ≤ m ∧ m ≤ 9 ∧ bl < 0) ∨ (1 ≤ n ∧ n ≤ 9 ∧ 0 ≤ m ∧ m ≤ 9 ∧ 0 ≤ bl ∧ 3 < bl) ∨
        (1 ≤ n ∧ n ≤ 9 ∧ 0 ≤ m ∧ m ≤ 9 ∧ 0 ≤ bl ∧ bl ≤ 3 ∧ 40 < s.size) := by omega
    clear hin
    rcases hcs with h | ⟨h1, h2⟩ | ⟨h1, h2, h3⟩ | ⟨h1, h2, h3, h4⟩ | ⟨h1, h2, h3, h4, h5⟩ | ⟨h1, h2, h3, h4, h5, h6⟩ | ⟨h1, h2, h3, h4, h5, h6, h7⟩
    all_goals
      go_enter Tryd.func3, Tryd.ntmps3
      go_wp2_with fail
      refine (alive_any _).mono ?_
      rintro e w1 ⟨rfl, b1⟩
      go_wp2_with fail
      go_ret
      exact ⟨rfl, b1⟩
end Go.Proofs.YtclhgbokhbfnbaaDoor
