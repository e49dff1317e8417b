/-
  mark: the contracts of Fence, and of Html where a line begins nothing; bowdlerlaw8.alive answers true.
-/
import Derived.Test.YtclhgbokhbfnbaaDoorMark5
namespace Go.Proofs.YtclhgbokhbfnbaaDoor
open Go.RowKit

def fenceV : Option (UInt8 × Nat × List UInt8) → Value
  | none => .tuple #[.int .u8 0, .int .i64 0, .string ⟨#[]⟩, .bool false]
  | some (c, n, t) => .tuple #[.int .u8 (c.toNat : Int), .int .i64 n, .string (S t), .bool true]
theorem fenceT_cases (l : List UInt8) : (¬ colT 0 l ≤ 3 ∧ fenceT l = none) ∨ (colT 0 l ≤ 3 ∧ restT l = [] ∧ fenceT l = none) ∨
    (colT 0 l ≤ 3 ∧ ∃ c r, restT l = c :: r ∧ ((c ≠ 96 ∧ c ≠ 126 ∧ fenceT l = none) ∨ ((c = 96 ∨ c = 126) ∧ ((rowT c (restT l) < 3 ∧ fenceT l = none) ∨
      (3 ≤ rowT c (restT l) ∧ ((c = 96 ∧ 96 ∈ Lib.trimS ((restT l).drop (rowT c (restT l))) [32, 9] ∧ fenceT l = none) ∨
        ((c ≠ 96 ∨ 96 ∉ Lib.trimS ((restT l).drop (rowT c (restT l))) [32, 9]) ∧ fenceT l = some (c, rowT c (restT l), Lib.trimS ((restT l).drop (rowT c (restT l))) [32, 9])))))))) := by
  by_cases h : colT 0 l ≤ 3
  · cases hr : restT l with
    | nil => exact .inr (.inl ⟨h, rfl, by unfold fenceT; rw [if_pos h, hr]⟩)
    | cons c r =>
      refine .inr (.inr ⟨h, c, r, rfl, ?_⟩)
      by_cases hc : c = 96 ∨ c = 126
      · refine .inr ⟨hc, ?_⟩
        have e : fenceT l = if 3 ≤ rowT c (c :: r) ∧ ¬ (c = 96 ∧ 96 ∈ Lib.trimS ((c :: r).drop (rowT c (c :: r))) [32, 9]) then some (c, rowT c (c :: r), Lib.trimS ((c :: r).drop (rowT c (c :: r))) [32, 9]) else none := by
          unfold fenceT; rw [if_pos h, hr]; dsimp only; rw [if_pos hc]
        by_cases h3 : 3 ≤ rowT c (c :: r)
        · refine .inr ⟨h3, ?_⟩
          by_cases h4 : c = 96 ∧ 96 ∈ Lib.trimS ((c :: r).drop (rowT c (c :: r))) [32, 9]
          · exact .inl ⟨h4.1, h4.2, by rw [e, if_neg fun hh => hh.2 h4]⟩
          · refine .inr ⟨?_, by rw [e, if_pos ⟨h3, h4⟩]⟩
            by_cases h5 : c = 96
            · exact .inr fun h6 => h4 ⟨h5, h6⟩
            · exact .inl h5
        · exact .inl ⟨by omega, by rw [e, if_neg fun hh => h3 hh.1]⟩
      · refine .inl ⟨fun e => hc (.inl e), fun e => hc (.inr e), ?_⟩
        unfold fenceT; rw [if_pos h, hr]; dsimp only; rw [if_neg hc]
  · exact .inl ⟨h, by unfold fenceT; rw [if_neg h]⟩

theorem contains1_any (s : ByteArray) (c : UInt8) (w : World) :
    Calls Tryd.prog 28 #[.string s, .string ⟨#[c]⟩] w fun e w' => e = .returned (.bool ((L s).contains c)) ∧ w = w' := by
  refine (Tryd.strings_Contains_one s c w).mono ?_
  rintro e w1 ⟨rfl, rfl⟩
  rw [idx_mem]
  exact ⟨rfl, rfl⟩

set_option maxHeartbeats 2000000 in
set_option maxRecDepth 100000 in
theorem fence_any (s : ByteArray) (w : World) (hs : s.size ≤ 1048576) :
    Calls Tryd.prog 16 #[.string s] w fun e w' => e = .returned (fenceV (fenceT (L s))) ∧ Below w.heap.size w w' := by
  have hcs := fenceT_cases (L s)
  have hle := restT_of_le s
  obtain ⟨xl, hx⟩ : ∃ xl, restT (L s) = xl := ⟨_, rfl⟩
  obtain ⟨k, hk⟩ : ∃ k, colT 0 (L s) = k := ⟨_, rfl⟩
  obtain ⟨V, hV⟩ : ∃ V, fenceT (L s) = V := ⟨_, rfl⟩
  rw [hV] at hcs ⊢
  rw [hx] at hcs hle
  rw [hk] at hcs
  have HX := Lib.hid hx
  have HK := Lib.hid hk
  clear hx hk hV
  have HXL : Hid (L (S xl) = xl) := Lib.hid (by simp)
  have hXs : xl.length = (S xl).size := by simp
  have hX0 : ∀ c r, xl = c :: r → ∃ h : 0 < (S xl).size, (S xl)[0]'h = c := fun c r e => ⟨by rw [size_S, e]; simp, S_at _ (by rw [e]; rfl)⟩
  have hXz : xl = [] → S xl = ⟨#[]⟩ := fun e => by rw [e]; rfl
  have hXd : ∀ n, (S xl).extract n (S xl).size = S (xl.drop n) := fun n => S_drop xl n
  have HXX : Hid (S (restT (L s)) = S xl) := Lib.hid (by rw [HX.out])
  generalize S xl = X at *
  have hXm : X.size ≤ 1048576 := by omega
  go_enter Tryd.func16, Tryd.ntmps16
  go_wp2_with fail
  refine (behind_any s _ hs).mono ?_
  rintro e w1 ⟨rfl, b1⟩
  rw [HK.out, HXX.out]
  have z1 := b1.size
  rcases hcs with ⟨h1, hv⟩ | ⟨h1, h2, hv⟩ | ⟨h1, c, r, h2, ⟨h3, h4, hv⟩ | ⟨h3, h4⟩⟩
  · have HV := Lib.hid hv
    have q : decide ((k : Int) ≤ 3) = false := decide_eq_false (by omega)
    clear hv h1 hX0 hXz hXd
    go_wp2_with fail
    refine bodyPost_ret (by simp [results, Tryd.results16, go_sem]; try rfl) rfl ?_
    rw [HV.out]
    exact ⟨rfl, b1⟩
  · have HV := Lib.hid hv
    have q := hXz h2
    clear hv h2 hX0 hXz hXd hXs HXL
    subst q
    go_wp2_with fail
    refine bodyPost_ret (by simp [results, Tryd.results16, go_sem]; try rfl) rfl ?_
    rw [HV.out]
    exact ⟨rfl, b1⟩
  · have HV := Lib.hid hv
    obtain ⟨g0, g1⟩ := hX0 c r h2
    obtain ⟨t1, t2, t3⟩ := bytes_some (a := X) (by omega)
    have q2 : ((c.toNat : Int) != 96) = true := byte_bne (x := c) (n := 96) (by decide) h3
    have q3 : ((c.toNat : Int) != 126) = true := byte_bne (x := c) (n := 126) (by decide) h4
    clear hv h2 hX0 hXz hXd h3 h4
    go_wp2_with fail
    refine bodyPost_ret (by simp [results, Tryd.results16, go_sem]; try rfl) rfl ?_
    rw [HV.out]
    exact ⟨rfl, b1⟩
  · obtain ⟨g0, g1⟩ := hX0 c r h2
    obtain ⟨t1, t2, t3⟩ := bytes_some (a := X) (by omega)
    have hnl := rowT_le c xl
    have hR := hXd (rowT c xl)
    have hc128 : c.toNat < 128 := by rcases h3 with rfl | rfl <;> decide
    obtain ⟨n, hn⟩ : ∃ n, rowT c xl = n := ⟨_, rfl⟩
    rw [hn] at hnl hR h4
    have hrs : (xl.drop n).length ≤ X.size := by simp; omega
    have HN := Lib.hid hn
    obtain ⟨rl, hrl⟩ : ∃ rl, xl.drop n = rl := ⟨_, rfl⟩
    rw [hrl] at hR hrs h4
    have H4 := Lib.hid h4
    have HR : Hid (L (S rl) = rl) := Lib.hid (by simp)
    have hRs : (S rl).size ≤ 1048576 := by rw [size_S]; omega
    generalize S rl = R at *
    have hil := trimS_len rl [32, 9]
    clear h4 hn hrl h2 hX0 hXz hXd
    have hsg : ((c.toNat : Int) != 96) = true ∨ c = 96 := by
      rcases h3 with rfl | rfl
      · exact .inr rfl
      · exact .inl rfl
    have hcc := h3
    clear h3
    have HCC := Lib.hid hcc
    rcases hcc with rfl | rfl
    all_goals
      go_wp2_with fail
      refine (row_any X _ _ hc128 (by omega)).mono ?_
      rintro e w2 ⟨rfl, b2⟩
      rw [HXL.out, HN.out]
      have bb2 := b1.trans (b2.mono z1)
      have z2 := bb2.size
      clear b1 b2
      go_wp2_with fail
      refine (trimBlanks_any R _ (by omega)).mono ?_
      rintro e w3 ⟨rfl, b3⟩
      rw [HR.out]
      have bb3 := bb2.trans (b3.mono z2)
      have HI : Hid (L (S (Lib.trimS rl [32, 9])) = Lib.trimS rl [32, 9]) := Lib.hid (by simp)
      have HII : Hid (S (Lib.trimS rl [32, 9]) = S (Lib.trimS rl [32, 9])) := Lib.hid rfl
      obtain ⟨I, hI⟩ : ∃ I, S (Lib.trimS rl [32, 9]) = I := ⟨_, rfl⟩
      rw [hI] at HI ⊢
      have HIS := Lib.hid hI
      clear hI HII bb2 b3
      rcases H4.out with ⟨h5, hv⟩ | ⟨h5, ⟨h6, h7, hv⟩ | ⟨h6, hv⟩⟩
      · have HV := Lib.hid hv
        have q : decide ((n : Int) < 3) = true := decide_eq_true (by omega)
        clear hv h5
        go_wp2_with fail
        refine bodyPost_ret (by simp [results, Tryd.results16, go_sem]; try rfl) rfl ?_
        rw [HV.out]
        exact ⟨rfl, bb3⟩
      · first
        | exact absurd h6 (by decide)
        | (have HV := Lib.hid hv
           have q : decide ((n : Int) < 3) = false := decide_eq_false (by omega)
           have H7 : Hid ((L I).contains 96 = true) := Lib.hid (by rw [HI.out]; simpa using h7)
           clear hv h5 h7 h6
           go_wp2_with fail
           refine (contains1_any I 96 _).mono ?_
           rintro e w4 ⟨rfl, rfl⟩
           rw [H7.out]
           go_wp2_with fail
           refine bodyPost_ret (by simp [results, Tryd.results16, go_sem]; try rfl) rfl ?_
           rw [HV.out]
           exact ⟨rfl, bb3⟩)
      · have HV := Lib.hid hv
        have q : decide ((n : Int) < 3) = false := decide_eq_false (by omega)
        first
        | (have H7 : Hid ((L I).contains 96 = false) := Lib.hid (by
             rw [HI.out]
             rcases h6 with h6 | h6
             · exact absurd rfl h6
             · simpa using h6)
           clear hv h5 h6
           go_wp2_with fail
           refine (contains1_any I 96 _).mono ?_
           rintro e w4 ⟨rfl, rfl⟩
           rw [H7.out]
           go_wp2_with fail
           refine bodyPost_ret (by simp [results, Tryd.results16, go_sem]; try rfl) rfl ?_
           rw [HV.out, ← HIS.out]
           exact ⟨rfl, bb3⟩)
        | (clear hv h5 h6
           go_wp2_with fail
           refine bodyPost_ret (by simp [results, Tryd.results16, go_sem]; try rfl) rfl ?_
           rw [HV.out, ← HIS.out]
           exact ⟨rfl, bb3⟩)

set_option maxHeartbeats 1000000 in
set_option maxRecDepth 100000 in
theorem html_far_any (s : ByteArray) (w : World) (hs : s.size ≤ 1048576) (hf : 4 ≤ colT 0 (L s)) :
    Calls Tryd.prog 18 #[.string s] w fun e w' => e = .returned (.bool false) ∧ Below w.heap.size w w' := by
  have q : decide ((colT 0 (L s) : Int) ≤ 3) = false := decide_eq_false (by omega)
  go_enter Tryd.func18, Tryd.ntmps18
  go_wp2_with fail
  refine (behind_any s _ hs).mono ?_
  rintro e w1 ⟨rfl, b1⟩
  rw [q]
  clear q
  generalize S (restT (L s)) = X at *
  generalize colT 0 (L s) = k at *
  go_wp2_with fail
  refine (cutPrefix_any X 60 _).mono ?_
  rintro e w2 ⟨rfl, rfl⟩
  generalize S (Lib.trimPrefix (L X) [60]) = Y at *
  generalize Lib.hasPrefix (L X) [60] = p at *
  go_wp2_with fail
  go_ret
  exact ⟨rfl, b1⟩

theorem html_x : S (restT (L ⟨#[60, 98]⟩)) = ⟨#[60, 98]⟩ := by decide +kernel
theorem html_c : colT 0 (L ⟨#[60, 98]⟩) = 0 := by decide +kernel
theorem html_p : S (Lib.trimPrefix (L ⟨#[60, 98]⟩) [60]) = ⟨#[98]⟩ := by decide +kernel
theorem html_h : Lib.hasPrefix (L ⟨#[60, 98]⟩) [60] = true := by decide +kernel
set_option maxHeartbeats 1000000 in
set_option maxRecDepth 100000 in
theorem html_one (w : World) : Calls Tryd.prog 18 #[.string ⟨#[60, 98]⟩] w fun e w' => e = .returned (.bool true) ∧ Below w.heap.size w w' := by
  have H1 := Lib.hid html_x
  have H2 := Lib.hid html_c
  have H3 := Lib.hid html_p
  have H4 := Lib.hid html_h
  go_enter Tryd.func18, Tryd.ntmps18
  go_wp2_with fail
  refine (behind_any _ _ (by decide)).mono ?_
  rintro e w1 ⟨rfl, b1⟩
  rw [H1.out, H2.out]
  go_wp2_with fail
  refine (cutPrefix_any _ 60 _).mono ?_
  rintro e w2 ⟨rfl, rfl⟩
  rw [H3.out, H4.out]
  go_wp2_with fail
  go_ret
  exact ⟨rfl, b1⟩

theorem al_h : headingT (L ⟨#[35, 35, 32, 65, 32, 35, 35]⟩) = some (2, [65]) := by decide +kernel
theorem al_i : itemT (L ⟨#[50, 41, 32, 97]⟩) = some (41, 2, 3, [97]) := by decide +kernel
theorem al_r : ruleT (L ⟨#[45, 32, 45, 32, 45]⟩) = true := by decide +kernel
theorem al_u : underT (L ⟨#[61, 61]⟩) = 1 := by decide +kernel
theorem al_h8 : ∀ b ∈ restT (L ⟨#[35, 35, 32, 65, 32, 35, 35]⟩), b.toNat < 128 := by decide +kernel
theorem al_i8 : ∀ b ∈ restT (L ⟨#[50, 41, 32, 97]⟩), b.toNat < 128 := by decide +kernel
theorem al_r8 : ∀ b ∈ restT (L ⟨#[45, 32, 45, 32, 45]⟩), b.toNat < 128 := by decide +kernel

set_option maxHeartbeats 1000000 in
set_option maxRecDepth 100000 in
theorem alive_any (w : World) : Calls Tryd.prog 10 #[] w fun e w' => e = .returned (.bool true) ∧ Below w.heap.size w w' := by
  have H1 := Lib.hid al_h
  have H2 := Lib.hid al_i
  have H3 := Lib.hid al_r
  have H4 := Lib.hid al_u
  go_enter Tryd.func10, Tryd.ntmps10
  go_wp2_with fail
  refine (heading_any _ _ (by decide) (fun _ => al_h8)).mono ?_
  rintro e w1 ⟨rfl, b1⟩
  rw [H1.out]
  have z1 := b1.size
  simp only [headV]
  rw [show S [65] = ⟨#[65]⟩ from rfl]
  go_wp2_with fail
  refine (item_any _ _ (by decide) (fun _ c r e => al_i8 c (by rw [e]; simp))).mono ?_
  rintro e w2 ⟨rfl, b2⟩
  rw [H2.out]
  have bb2 := b1.trans (b2.mono z1)
  have z2 := bb2.size
  simp only [itemV]
  rw [show S [97] = ⟨#[97]⟩ from rfl]
  clear b1 b2
  go_wp2_with fail
  refine (rule_any _ _ (by decide) (fun _ c r e => al_r8 c (by rw [e]; simp))).mono ?_
  rintro e w3 ⟨rfl, b3⟩
  rw [H3.out]
  have bb3 := bb2.trans (b3.mono z2)
  have z3 := bb3.size
  clear bb2 b3
  go_wp2_with fail
  refine (under_any _ _ (by decide)).mono ?_
  rintro e w4 ⟨rfl, b4⟩
  rw [H4.out]
  have bb4 := bb3.trans (b4.mono z3)
  have z4 := bb4.size
  clear bb3 b4
  go_wp2_with fail
  refine (html_one _).mono ?_
  rintro e w5 ⟨rfl, b5⟩
  have bb5 := bb4.trans (b5.mono z4)
  clear bb4 b5
  go_wp2_with fail
  go_ret
  exact ⟨rfl, bb5⟩
end Go.Proofs.YtclhgbokhbfnbaaDoor
