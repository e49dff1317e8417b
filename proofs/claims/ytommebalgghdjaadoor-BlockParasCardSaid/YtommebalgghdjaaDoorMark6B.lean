/-
  mark: the contracts of Fence and of Html.
-/
import Derived.Test.YtommebalgghdjaaDoorMark5B
namespace Go.Proofs.YtommebalgghdjaaDoor
open Go.RowKit

def fenceV : Option (UInt8 × Nat × List UInt8) → Value
  | none => .tuple #[.int .u8 0, .int .i64 0, .string ⟨#[]⟩, .bool false]
  | some (c, n, t) => .tuple #[.int .u8 (c.toNat : Int), .int .i64 n, .string (S t), .bool true]
theorem fenceT_cases (l : List UInt8) : (¬ colT 0 l ≤ 3 ∧ fenceT l = none) ∨ (colT 0 l ≤ 3 ∧ restT l = [] ∧ fenceT l = none) ∨
    (colT 0 l ≤ 3 ∧ ∃ c r, restT l = c :: r ∧ ((c ≠ 96 ∧ c ≠ 126 ∧ fenceT l = none) ∨ ((c = 96 ∨ c = 126) ∧ ((rowT c (restT l) < 3 ∧ fenceT l = none) ∨
      (3 ≤ rowT c (restT l) ∧ ((c = 96 ∧ 96 ∈ Lib.trimS ((restT l).drop (rowT c (restT l))) [32, 9] ∧ fenceT l = none) ∨
        ((c ≠ 96 ∨ 96 ∉ Lib.trimS ((restT l).drop (rowT c (restT l))) [32, 9]) ∧ fenceT l = some (c, rowT c (restT l), Lib.trimS ((restT l).drop (rowT c (restT l))) [32, 9])))))))) := by
  by_cases h : colT 0 l ≤ 3
  · cases hr : restT l with
    | nil => exact .inr (.inl ⟨h, rfl, by unfold fenceT; rw [if_pos h, hr]⟩)
    | cons c r =>
      refine .inr (.inr ⟨h, c, r, rfl, ?_⟩)
      by_cases hc : c = 96 ∨ c = 126
      · refine .inr ⟨hc, ?_⟩
        have e : fenceT l = if 3 ≤ rowT c (c :: r) ∧ ¬ (c = 96 ∧ 96 ∈ Lib.trimS ((c :: r).drop (rowT c (c :: r))) [32, 9]) then some (c, rowT c (c :: r), Lib.trimS ((c :: r).drop (rowT c (c :: r))) [32, 9]) else none := by
          unfold fenceT; rw [if_pos h, hr]; dsimp only; rw [if_pos hc]
        by_cases h3 : 3 ≤ rowT c (c :: r)
        · refine .inr ⟨h3, ?_⟩
          by_cases h4 : c = 96 ∧ 96 ∈ Lib.trimS ((c :: r).drop (rowT c (c :: r))) [32, 9]
          · exact .inl ⟨h4.1, h4.2, by rw [e, if_neg fun hh => hh.2 h4]⟩
          · refine .inr ⟨?_, by rw [e, if_pos ⟨h3, h4⟩]⟩
            by_cases h5 : c = 96
            · exact .inr fun h6 => h4 ⟨h5, h6⟩
            · exact .inl h5
        · exact .inl ⟨by omega, by rw [e, if_neg fun hh => h3 hh.1]⟩
      · refine .inl ⟨fun e => hc (.inl e), fun e => hc (.inr e), ?_⟩
        unfold fenceT; rw [if_pos h, hr]; dsimp only; rw [if_neg hc]
  · exact .inl ⟨h, by unfold fenceT; rw [if_neg h]⟩

theorem contains1_any (s : ByteArray) (c : UInt8) (w : World) :
    Calls Tryd.prog 66 #[.string s, .string ⟨#[c]⟩] w fun e w' => e = .returned (.bool ((L s).contains c)) ∧ w = w' := by
  refine (Tryd.strings_Contains_one s c w).mono ?_
  rintro e w1 ⟨rfl, rfl⟩
  rw [idx_mem]
  exact ⟨rfl, rfl⟩

set_option maxHeartbeats 2000000 in
set_option maxRecDepth 100000 in
theorem fence_any (s : ByteArray) (w : World) (hs : s.size ≤ 1048576) :
    Calls Tryd.prog 41 #[.string s] w fun e w' => e = .returned (fenceV (fenceT (L s))) ∧ Below w.heap.size w w' := by
  have hcs := fenceT_cases (L s)
  have hle := restT_of_le s
  obtain ⟨xl, hx⟩ : ∃ xl, restT (L s) = xl := ⟨_, rfl⟩
  obtain ⟨k, hk⟩ : ∃ k, colT 0 (L s) = k := ⟨_, rfl⟩
  obtain ⟨V, hV⟩ : ∃ V, fenceT (L s) = V := ⟨_, rfl⟩
  rw [hV] at hcs ⊢
  rw [hx] at hcs hle
  rw [hk] at hcs
  have HX := Lib.hid hx
  have HK := Lib.hid hk
  clear hx hk hV
  have HXL : Hid (L (S xl) = xl) := Lib.hid (by simp)
  have hXs : xl.length = (S xl).size := by simp
  have hX0 : ∀ c r, xl = c :: r → ∃ h : 0 < (S xl).size, (S xl)[0]'h = c := fun c r e => ⟨by rw [size_S, e]; simp, S_at _ (by rw [e]; rfl)⟩
  have hXz : xl = [] → S xl = ⟨#[]⟩ := fun e => by rw [e]; rfl
  have hXd : ∀ n, (S xl).extract n (S xl).size = S (xl.drop n) := fun n => S_drop xl n
  have HXX : Hid (S (restT (L s)) = S xl) := Lib.hid (by rw [HX.out])
  generalize S xl = X at *
  have hXm : X.size ≤ 1048576 := by omega
  go_enter Tryd.func41, Tryd.ntmps41
  go_wp2_with fail
  refine (behind_any s _ hs).mono ?_
  rintro e w1 ⟨rfl, b1⟩
  rw [HK.out, HXX.out]
  have z1 := b1.size
  rcases hcs with ⟨h1, hv⟩ | ⟨h1, h2, hv⟩ | ⟨h1, c, r, h2, ⟨h3, h4, hv⟩ | ⟨h3, h4⟩⟩
  · have HV := Lib.hid hv
    have q : decide ((k : Int) ≤ 3) = false := decide_eq_false (by omega)
    clear hv h1 hX0 hXz hXd
    go_wp2_with fail
    refine bodyPost_ret (by simp [results, Tryd.results41, go_sem]; try rfl) rfl ?_
    rw [HV.out]
    exact ⟨rfl, b1⟩
  · have HV := Lib.hid hv
    have q := hXz h2
    clear hv h2 hX0 hXz hXd hXs HXL
    subst q
    go_wp2_with fail
    refine bodyPost_ret (by simp [results, Tryd.results41, go_sem]; try rfl) rfl ?_
    rw [HV.out]
    exact ⟨rfl, b1⟩
  · have HV := Lib.hid hv
    obtain ⟨g0, g1⟩ := hX0 c r h2
    obtain ⟨t1, t2, t3⟩ := bytes_some (a := X) (by omega)
    have q2 : ((c.toNat : Int) != 96) = true := byte_bne (x := c) (n := 96) (by decide) h3
    have q3 : ((c.toNat : Int) != 126) = true := byte_bne (x := c) (n := 126) (by decide) h4
    clear hv h2 hX0 hXz hXd h3 h4
    go_wp2_with fail
    refine bodyPost_ret (by simp [results, Tryd.results41, go_sem]; try rfl) rfl ?_
    rw [HV.out]
    exact ⟨rfl, b1⟩
  · obtain ⟨g0, g1⟩ := hX0 c r h2
    obtain ⟨t1, t2, t3⟩ := bytes_some (a := X) (by omega)
    have hnl := rowT_le c xl
    have hR := hXd (rowT c xl)
    have hc128 : c.toNat < 128 := by rcases h3 with rfl | rfl <;> decide
    obtain ⟨n, hn⟩ : ∃ n, rowT c xl = n := ⟨_, rfl⟩
    rw [hn] at hnl hR h4
    have hrs : (xl.drop n).length ≤ X.size := by simp; omega
    have HN := Lib.hid hn
    obtain ⟨rl, hrl⟩ : ∃ rl, xl.drop n = rl := ⟨_, rfl⟩
    rw [hrl] at hR hrs h4
    have H4 := Lib.hid h4
    have HR : Hid (L (S rl) = rl) := Lib.hid (by simp)
    have hRs : (S rl).size ≤ 1048576 := by rw [size_S]; omega
    generalize S rl = R at *
    have hil := trimS_len rl [32, 9]
    clear h4 hn hrl h2 hX0 hXz hXd
    have hsg : ((c.toNat : Int) != 96) = true ∨ c = 96 := by
      rcases h3 with rfl | rfl
      · exact .inr rfl
      · exact .inl rfl
    have hcc := h3
    clear h3
    have HCC := Lib.hid hcc
    rcases hcc with rfl | rfl
    all_goals
      go_wp2_with fail
      refine (row_any X _ _ hc128 (by omega)).mono ?_
      rintro e w2 ⟨rfl, b2⟩
      rw [HXL.out, HN.out]
      have bb2 := b1.trans (b2.mono z1)
      have z2 := bb2.size
      clear b1 b2
      go_wp2_with fail
      refine (trimBlanks_any R _ (by omega)).mono ?_
      rintro e w3 ⟨rfl, b3⟩
      rw [HR.out]
      have bb3 := bb2.trans (b3.mono z2)
      have HI : Hid (L (S (Lib.trimS rl [32, 9])) = Lib.trimS rl [32, 9]) := Lib.hid (by simp)
      have HII : Hid (S (Lib.trimS rl [32, 9]) = S (Lib.trimS rl [32, 9])) := Lib.hid rfl
      obtain ⟨I, hI⟩ : ∃ I, S (Lib.trimS rl [32, 9]) = I := ⟨_, rfl⟩
      rw [hI] at HI ⊢
      have HIS := Lib.hid hI
      clear hI HII bb2 b3
      rcases H4.out with ⟨h5, hv⟩ | ⟨h5, ⟨h6, h7, hv⟩ | ⟨h6, hv⟩⟩
      · have HV := Lib.hid hv
        have q : decide ((n : Int) < 3) = true := decide_eq_true (by omega)
        clear hv h5
        go_wp2_with fail
        refine bodyPost_ret (by simp [results, Tryd.results41, go_sem]; try rfl) rfl ?_
        rw [HV.out]
        exact ⟨rfl, bb3⟩
      · first
        | exact absurd h6 (by decide)
        | (have HV := Lib.hid hv
           have q : decide ((n : Int) < 3) = false := decide_eq_false (by omega)
           have H7 : Hid ((L I).contains 96 = true) := Lib.hid (by rw [HI.out]; simpa using h7)
           clear hv h5 h7 h6
           go_wp2_with fail
           refine (contains1_any I 96 _).mono ?_
           rintro e w4 ⟨rfl, rfl⟩
           rw [H7.out]
           go_wp2_with fail
           refine bodyPost_ret (by simp [results, Tryd.results41, go_sem]; try rfl) rfl ?_
           rw [HV.out]
           exact ⟨rfl, bb3⟩)
      · have HV := Lib.hid hv
        have q : decide ((n : Int) < 3) = false := decide_eq_false (by omega)
        first
        | (have H7 : Hid ((L I).contains 96 = false) := Lib.hid (by
             rw [HI.out]
             rcases h6 with h6 | h6
             · exact absurd rfl h6
             · simpa using h6)
           clear hv h5 h6
           go_wp2_with fail
           refine (contains1_any I 96 _).mono ?_
           rintro e w4 ⟨rfl, rfl⟩
           rw [H7.out]
           go_wp2_with fail
           refine bodyPost_ret (by simp [results, Tryd.results41, go_sem]; try rfl) rfl ?_
           rw [HV.out, ← HIS.out]
           exact ⟨rfl, bb3⟩)
        | (clear hv h5 h6
           go_wp2_with fail
           refine bodyPost_ret (by simp [results, Tryd.results41, go_sem]; try rfl) rfl ?_
           rw [HV.out, ← HIS.out]
           exact ⟨rfl, bb3⟩)

theorem html_cases (l : List UInt8) : (¬ colT 0 l ≤ 3 ∧ htmlT l = false) ∨ (colT 0 l ≤ 3 ∧ (∀ r, restT l ≠ 60 :: r) ∧ htmlT l = false) ∨ (colT 0 l ≤ 3 ∧ restT l = [60] ∧ htmlT l = false) ∨
    (colT 0 l ≤ 3 ∧ ∃ b r, restT l = 60 :: b :: r ∧ htmlT l = ((decide (97 ≤ (b ||| 32).toNat) && decide ((b ||| 32).toNat ≤ 122) && decide (65 ≤ b.toNat)) || [47, 33, 63].contains b)) := by
  by_cases h : colT 0 l ≤ 3
  · cases hr : restT l with
    | nil => exact .inr (.inl ⟨h, by simp, by unfold htmlT; rw [decide_eq_true h, hr]; rfl⟩)
    | cons c r =>
      by_cases hc : c = 60
      · subst hc
        cases r with
        | nil => exact .inr (.inr (.inl ⟨h, rfl, by unfold htmlT; rw [decide_eq_true h, hr]; rfl⟩))
        | cons b r => exact .inr (.inr (.inr ⟨h, b, r, rfl, by unfold htmlT; rw [decide_eq_true h, hr]; rfl⟩))
      · refine .inr (.inl ⟨h, fun r' he => hc (by injection he), ?_⟩)
        unfold htmlT
        rw [decide_eq_true h, hr, Bool.true_and]
        split
        · rename_i he; injection he with he; exact absurd he hc
        · rfl
  · exact .inl ⟨h, by unfold htmlT; rw [decide_eq_false h]; rfl⟩

theorem or_fin : ∀ n : Nat, n < 256 → bits BinOp.or IntKind.u8 (n : Int) 32 = ((n.toUInt8 ||| 32).toNat : Int) := by decide +kernel
theorem or_any (b : UInt8) : bits BinOp.or IntKind.u8 (b.toNat : Int) 32 = ((b ||| 32).toNat : Int) := by
  have := or_fin b.toNat b.toNat_lt
  rwa [show b.toNat.toUInt8 = b by simp] at this

set_option maxHeartbeats 2000000 in
set_option maxRecDepth 100000 in
theorem html_any (s : ByteArray) (w : World) (hs : s.size ≤ 1048576) :
    Calls Tryd.prog 52 #[.string s] w fun e w' => e = .returned (.bool (htmlT (L s))) ∧ Below w.heap.size w w' := by
  have hcs := html_cases (L s)
  obtain ⟨xl, hx⟩ : ∃ xl, restT (L s) = xl := ⟨_, rfl⟩
  obtain ⟨k, hk⟩ : ∃ k, colT 0 (L s) = k := ⟨_, rfl⟩
  obtain ⟨V, hV⟩ : ∃ V, htmlT (L s) = V := ⟨_, rfl⟩
  rw [hV] at hcs ⊢
  rw [hx, hk] at hcs
  have HX := Lib.hid hx
  have HK := Lib.hid hk
  clear hx hk hV
  have HCP : Hid (∀ w, Calls Tryd.prog 76 #[.string (S xl), .string ⟨#[60]⟩] w fun e w' => e = .returned (.tuple #[.string (S (Lib.trimPrefix xl [60])), .bool (Lib.hasPrefix xl [60])]) ∧ w = w') := Lib.hid fun w => by
    have := cutPrefix_any (S xl) 60 w
    rwa [L_S] at this
  rcases hcs with ⟨h1, hv⟩ | ⟨h1, h2, hv⟩ | ⟨h1, h2, hv⟩ | ⟨h1, b, r, h2, hv⟩
  · have HV := Lib.hid hv
    have q : decide ((k : Int) ≤ 3) = false := decide_eq_false (by omega)
    clear hv h1
    go_enter Tryd.func52, Tryd.ntmps52
    go_wp2_with fail
    refine (behind_any s _ hs).mono ?_
    rintro e w1 ⟨rfl, b1⟩
    rw [HX.out, HK.out, q]
    clear q
    go_wp2_with fail
    refine (HCP.out _).mono ?_
    rintro e w2 ⟨rfl, rfl⟩
    generalize Lib.hasPrefix xl [60] = p at *
    go_wp2_with fail
    go_ret
    rw [HV.out]
    exact ⟨rfl, b1⟩
  · have HV := Lib.hid hv
    have q : decide ((k : Int) ≤ 3) = true := decide_eq_true (by omega)
    have hp : Lib.hasPrefix xl [60] = false := by
      rcases prefix1 xl 60 with ⟨r, e, _⟩ | ⟨hp, _⟩
      · exact absurd e (h2 r)
      · exact hp
    rw [hp] at HCP
    clear hv h1 h2 hp
    go_enter Tryd.func52, Tryd.ntmps52
    go_wp2_with fail
    refine (behind_any s _ hs).mono ?_
    rintro e w1 ⟨rfl, b1⟩
    rw [HX.out, HK.out, q]
    clear q
    go_wp2_with fail
    refine (HCP.out _).mono ?_
    rintro e w2 ⟨rfl, rfl⟩
    go_wp2_with fail
    go_ret
    rw [HV.out]
    exact ⟨rfl, b1⟩
  · have HV := Lib.hid hv
    have q : decide ((k : Int) ≤ 3) = true := decide_eq_true (by omega)
    subst h2
    have e1 : Lib.hasPrefix [60] [60] = true := by decide
    have e2 : S (Lib.trimPrefix [60] [60]) = ⟨#[]⟩ := by decide
    rw [e1, e2] at HCP
    clear hv h1 e1 e2
    go_enter Tryd.func52, Tryd.ntmps52
    go_wp2_with fail
    refine (behind_any s _ hs).mono ?_
    rintro e w1 ⟨rfl, b1⟩
    rw [HX.out, HK.out, q]
    clear q
    go_wp2_with fail
    refine (HCP.out _).mono ?_
    rintro e w2 ⟨rfl, rfl⟩
    go_wp2_with fail
    go_ret
    rw [HV.out]
    exact ⟨rfl, b1⟩
  · have q : decide ((k : Int) ≤ 3) = true := decide_eq_true (by omega)
    have hp : Lib.hasPrefix xl [60] = true ∧ Lib.trimPrefix xl [60] = b :: r := by
      rcases prefix1 xl 60 with ⟨r', e, hp, ht⟩ | ⟨_, hne⟩
      · rw [h2] at e
        injection e with _ e
        exact ⟨hp, by rw [ht, ← e]⟩
      · exact absurd h2 (hne _)
    rw [hp.1, hp.2] at HCP
    have g0 : ∃ h : 0 < (S (b :: r)).size, (S (b :: r))[0]'h = b := ⟨by rw [size_S]; simp, S_at _ rfl⟩
    have HV := Lib.hid hv
    clear hv h1 h2 hp
    generalize S (b :: r) = R at *
    obtain ⟨g0, g1⟩ := g0
    obtain ⟨t1, t2, t3⟩ := bytes_some (a := R) (by omega)
    have hb256 : b.toNat < 256 := b.toNat_lt
    have H3 : Hid ((L ⟨#[47, 33, 63]⟩).contains b = [47, 33, 63].contains b) := Lib.hid (by rw [L_lit])
    go_enter Tryd.func52, Tryd.ntmps52
    go_wp2_with fail
    refine (behind_any s _ hs).mono ?_
    rintro e w1 ⟨rfl, b1⟩
    rw [HX.out, HK.out, q]
    clear q
    go_wp2_with fail
    refine (HCP.out _).mono ?_
    rintro e w2 ⟨rfl, rfl⟩
    go_upto_region 6 with fail
    rw [or_any]
    have HV2 := HV.out
    obtain ⟨ct, hct⟩ : ∃ ct, ([47, 33, 63] : List UInt8).contains b = ct := ⟨_, rfl⟩
    rw [hct] at HV2 H3
    clear HV hct
    generalize (b ||| 32).toNat = d at *
    by_cases c1 : 97 ≤ d
    · by_cases c2 : d ≤ 122
      · by_cases c3 : 65 ≤ b.toNat
        · have HV3 : Hid (V = true) := Lib.hid (by rw [HV2, decide_eq_true c1, decide_eq_true c2, decide_eq_true c3]; rfl)
          have p1 : decide ((97 : Int) ≤ (d : Int)) = true := decide_eq_true (by omega)
          have p2 : decide ((d : Int) ≤ 122) = true := decide_eq_true (by omega)
          have p3 : decide ((65 : Int) ≤ (b.toNat : Int)) = true := decide_eq_true (by omega)
          clear HV2
          go_wp2_with fail
          go_ret
          rw [HV3.out]
          exact ⟨rfl, b1⟩
        · have HV3 : Hid (V = ct) := Lib.hid (by rw [HV2, decide_eq_false c3, Bool.and_false, Bool.false_or])
          have p3 : decide ((65 : Int) ≤ (b.toNat : Int)) = false := decide_eq_false (by omega)
          clear HV2
          go_wp2_with fail
          refine (htmlsB_any b _).mono ?_
          rintro e w3 ⟨rfl, b3⟩
          rw [H3.out]
          go_wp2_with fail
          go_ret
          rw [HV3.out]
          exact ⟨rfl, b1.trans (b3.mono b1.size)⟩
      · have HV3 : Hid (V = ct) := Lib.hid (by rw [HV2, decide_eq_false c2, Bool.and_false, Bool.false_and, Bool.false_or])
        clear HV2
        go_wp2_with fail
        refine (htmlsB_any b _).mono ?_
        rintro e w3 ⟨rfl, b3⟩
        rw [H3.out]
        go_wp2_with fail
        go_ret
        rw [HV3.out]
        exact ⟨rfl, b1.trans (b3.mono b1.size)⟩
    · have HV3 : Hid (V = ct) := Lib.hid (by rw [HV2, decide_eq_false c1, Bool.false_and, Bool.false_and, Bool.false_or])
      clear HV2
      go_wp2_with fail
      refine (htmlsB_any b _).mono ?_
      rintro e w3 ⟨rfl, b3⟩
      rw [H3.out]
      go_wp2_with fail
      go_ret
      rw [HV3.out]
      exact ⟨rfl, b1.trans (b3.mono b1.size)⟩
end Go.Proofs.YtommebalgghdjaaDoor
