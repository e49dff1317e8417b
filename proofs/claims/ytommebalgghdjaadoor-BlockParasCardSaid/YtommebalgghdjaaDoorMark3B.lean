/-
  mark: the contracts of Quote, Rule and Closes.
-/
import Derived.Test.YtommebalgghdjaaDoorMark2B
namespace Go.Proofs.YtommebalgghdjaaDoor
open Go.RowKit

theorem cutPrefix_any (s : ByteArray) (p : UInt8) (w : World) :
    Calls Tryd.prog 76 #[.string s, .string ⟨#[p]⟩] w fun e w' => e = .returned (.tuple #[.string (S (Lib.trimPrefix (L s) [p])), .bool (Lib.hasPrefix (L s) [p])]) ∧ w = w' :=
  (Tryd.strings_CutPrefix s ⟨#[p]⟩ w).mono fun _ _ ⟨h, h'⟩ => ⟨h, h'.symm⟩
theorem trimPrefix_any (s : ByteArray) (p : UInt8) (w : World) :
    Calls Tryd.prog 90 #[.string s, .string ⟨#[p]⟩] w fun e w' => e = .returned (.string (S (Lib.trimPrefix (L s) [p]))) ∧ w = w' :=
  (Tryd.strings_TrimPrefix s ⟨#[p]⟩ w).mono fun _ _ ⟨h, h'⟩ => ⟨h, h'.symm⟩
theorem prefix1 (l : List UInt8) (p : UInt8) : (∃ r, l = p :: r ∧ Lib.hasPrefix l [p] = true ∧ Lib.trimPrefix l [p] = r) ∨ (Lib.hasPrefix l [p] = false ∧ ∀ r, l ≠ p :: r) := by
  cases l with
  | nil => exact .inr ⟨rfl, fun r h => by cases h⟩
  | cons b r =>
    by_cases hb : b = p
    · subst hb
      have h : Lib.hasPrefix (b :: r) [b] = true := by simp [Lib.hasPrefix, List.isPrefixOf]
      exact .inl ⟨r, rfl, h, by unfold Lib.trimPrefix; rw [if_pos h]; rfl⟩
    · refine .inr ⟨by simp [Lib.hasPrefix, List.isPrefixOf]; exact fun e => hb e.symm, fun r' h => hb ?_⟩
      injection h

def quoteV : Option (List UInt8) → Value
  | none => .tuple #[.string ⟨#[]⟩, .bool false]
  | some t => .tuple #[.string (S t), .bool true]
theorem quoteT_cases (l : List UInt8) : (¬ colT 0 l ≤ 3 ∧ quoteT l = none) ∨ (colT 0 l ≤ 3 ∧ Lib.hasPrefix (restT l) [62] = false ∧ quoteT l = none) ∨
    (colT 0 l ≤ 3 ∧ ∃ r, Lib.hasPrefix (restT l) [62] = true ∧ Lib.trimPrefix (restT l) [62] = r ∧ quoteT l = some (Lib.trimPrefix r [32])) := by
  by_cases h : colT 0 l ≤ 3
  · rcases prefix1 (restT l) 62 with ⟨r, h1, h2, h3⟩ | ⟨h1, h2⟩
    · refine .inr (.inr ⟨h, r, h2, h3, ?_⟩)
      unfold quoteT; rw [if_pos h, h1]; rfl
    · refine .inr (.inl ⟨h, h1, ?_⟩)
      unfold quoteT; rw [if_pos h]
      split
      · rename_i r hr; exact absurd hr (h2 r)
      · rfl
  · exact .inl ⟨h, by unfold quoteT; rw [if_neg h]⟩

set_option maxHeartbeats 1000000 in
set_option maxRecDepth 100000 in
theorem quote_any (s : ByteArray) (w : World) (hs : s.size ≤ 1048576) :
    Calls Tryd.prog 72 #[.string s] w fun e w' => e = .returned (quoteV (quoteT (L s))) ∧ Below w.heap.size w w' := by
  have hcs := quoteT_cases (L s)
  obtain ⟨xl, hx⟩ : ∃ xl, restT (L s) = xl := ⟨_, rfl⟩
  obtain ⟨k, hk⟩ : ∃ k, colT 0 (L s) = k := ⟨_, rfl⟩
  obtain ⟨V, hV⟩ : ∃ V, quoteT (L s) = V := ⟨_, rfl⟩
  rw [hV] at hcs ⊢
  rw [hx, hk] at hcs
  have HX := Lib.hid hx
  have HK := Lib.hid hk
  clear hx hk hV
  have HXL : Hid (L (S xl) = xl) := Lib.hid (by simp)
  go_enter Tryd.func72, Tryd.ntmps72
  go_wp2_with fail
  refine (behind_any s _ hs).mono ?_
  rintro e w1 ⟨rfl, b1⟩
  rw [HX.out, HK.out]
  have HXX : Hid (S xl = S xl) := Lib.hid rfl
  generalize S xl = X at *
  clear HXX
  go_wp2_with fail
  refine (cutPrefix_any X 62 _).mono ?_
  rintro e w2 ⟨rfl, rfl⟩
  rw [HXL.out]
  rcases hcs with ⟨h1, hv⟩ | ⟨h1, h2, hv⟩ | ⟨h1, r, h2, h3, hv⟩
  · have HV := Lib.hid hv
    have q : decide ((k : Int) ≤ 3) = false := decide_eq_false (by omega)
    generalize Lib.hasPrefix xl [62] = p at *
    clear hv h1
    go_wp2_with fail
    go_ret2
    rw [HV.out]
    exact ⟨rfl, b1⟩
  · have HV := Lib.hid hv
    rw [h2]
    clear hv h2
    go_wp2_with fail
    go_ret2
    rw [HV.out]
    exact ⟨rfl, b1⟩
  · have HV := Lib.hid hv
    rw [h2, h3]
    have HR : Hid (L (S r) = r) := Lib.hid (by simp)
    generalize S r = R at *
    clear hv h2 h3
    go_wp2_with fail
    refine (trimPrefix_any R 32 _).mono ?_
    rintro e w3 ⟨rfl, rfl⟩
    rw [HR.out]
    go_wp2_with fail
    go_ret2
    rw [HV.out]
    exact ⟨rfl, b1⟩

theorem ruleT_cases (l : List UInt8) : (¬ colT 0 l ≤ 3 ∧ ruleT l = false) ∨ (colT 0 l ≤ 3 ∧ restT l = [] ∧ ruleT l = false) ∨
    (colT 0 l ≤ 3 ∧ ∃ c r, restT l = c :: r ∧ (([45, 42, 95].contains c = false ∧ ruleT l = false) ∨
      ([45, 42, 95].contains c = true ∧ c.toNat < 128 ∧ (((restT l).count c < 3 ∧ ruleT l = false) ∨ (3 ≤ (restT l).count c ∧ ruleT l = decide (Lib.trimS (restT l) [32, 9, c] = [])))))) := by
  by_cases h : colT 0 l ≤ 3
  · cases hr : restT l with
    | nil => exact .inr (.inl ⟨h, rfl, by unfold ruleT; rw [hr, decide_eq_true h]; rfl⟩)
    | cons c r =>
      refine .inr (.inr ⟨h, c, r, rfl, ?_⟩)
      have e : ruleT l = ([45, 42, 95].contains c && decide (3 ≤ (c :: r).count c) && decide (Lib.trimS (c :: r) [32, 9, c] = [])) := by
        unfold ruleT; rw [hr, decide_eq_true h]; rfl
      cases hc : ([45, 42, 95] : List UInt8).contains c with
      | false => exact .inl ⟨rfl, by rw [e, hc]; rfl⟩
      | true =>
        refine .inr ⟨rfl, ?_, ?_⟩
        · simp at hc
          rcases hc with rfl | rfl | rfl <;> decide
        · by_cases h3 : 3 ≤ (c :: r).count c
          · exact .inr ⟨h3, by rw [e, hc, decide_eq_true h3]; rfl⟩
          · exact .inl ⟨by omega, by rw [e, hc, decide_eq_false h3]; rfl⟩
  · exact .inl ⟨h, by unfold ruleT; rw [decide_eq_false h]; rfl⟩

set_option maxHeartbeats 1000000 in
set_option maxRecDepth 100000 in
theorem rule_any (s : ByteArray) (w : World) (hs : s.size ≤ 1048576) :
    Calls Tryd.prog 47 #[.string s] w fun e w' => e = .returned (.bool (ruleT (L s))) ∧ Below w.heap.size w w' := by
  have hcs := ruleT_cases (L s)
  have hle := restT_of_le s
  obtain ⟨xl, hx⟩ : ∃ xl, restT (L s) = xl := ⟨_, rfl⟩
  obtain ⟨k, hk⟩ : ∃ k, colT 0 (L s) = k := ⟨_, rfl⟩
  obtain ⟨V, hV⟩ : ∃ V, ruleT (L s) = V := ⟨_, rfl⟩
  rw [hV] at hcs ⊢
  rw [hx] at hcs hle
  rw [hk] at hcs
  have HX := Lib.hid hx
  have HK := Lib.hid hk
  clear hx hk hV
  have HXL : Hid (L (S xl) = xl) := Lib.hid (by simp)
  have hXs : (S xl).size ≤ 1048576 := by rw [size_S]; omega
  have hX0 : ∀ c r, xl = c :: r → ∃ h : 0 < (S xl).size, (S xl)[0]'h = c := fun c r e => ⟨by rw [size_S, e]; simp, S_at _ (by rw [e]; rfl)⟩
  have hX1 : ∀ c r, xl = c :: r → (S xl).extract 0 1 = ⟨#[c]⟩ := fun c r e => by
    apply L_inj; rw [L_extract, L_S, e]; rfl
  have hXz : xl = [] → S xl = ⟨#[]⟩ := fun e => by rw [e]; rfl
  go_enter Tryd.func47, Tryd.ntmps47
  go_wp2_with fail
  refine (behind_any s _ hs).mono ?_
  rintro e w1 ⟨rfl, b1⟩
  rw [HX.out, HK.out]
  have HXX : Hid (S xl = S xl) := Lib.hid rfl
  generalize S xl = X at *
  clear HXX
  have z1 := b1.size
  rcases hcs with ⟨h1, hv⟩ | ⟨h1, h2, hv⟩ | ⟨h1, c, r, h2, ⟨h3, hv⟩ | ⟨h3, h4, ⟨h5, hv⟩ | ⟨h5, hv⟩⟩⟩
  · have HV := Lib.hid hv
    have q : decide ((k : Int) ≤ 3) = false := decide_eq_false (by omega)
    clear hv h1 hX0 hX1 hXz
    go_wp2_with fail
    go_ret
    rw [HV.out]
    exact ⟨rfl, b1⟩
  · have HV := Lib.hid hv
    have q := hXz h2
    clear hv h2 hX0 hX1 hXz
    subst q
    go_wp2_with fail
    go_ret
    rw [HV.out]
    exact ⟨rfl, b1⟩
  · have HV := Lib.hid hv
    obtain ⟨g0, g1⟩ := hX0 c r h2
    obtain ⟨t1, t2, t3⟩ := bytes_some (a := X) (by omega)
    have H3 : Hid ((L ⟨#[45, 42, 95]⟩).contains c = false) := Lib.hid (by rw [L_lit]; exact h3)
    clear hv h2 hX0 hX1 hXz h3
    have hc256 : c.toNat < 256 := c.toNat_lt
    go_wp2_with fail
    refine (rulesB_any c _).mono ?_
    rintro e w3 ⟨rfl, b3⟩
    have b1 := b1.trans (b3.mono z1)
    rw [H3.out]
    go_wp2_with fail
    go_ret
    rw [HV.out]
    exact ⟨rfl, b1⟩
  all_goals
    have HV := Lib.hid hv
    obtain ⟨g0, g1⟩ := hX0 c r h2
    have g2 := hX1 c r h2
    have g3 : (1 : Int) ≤ (X.size : Int) := by omega
    obtain ⟨t1, t2, t3⟩ := bytes_some (a := X) (by omega)
    have H3 : Hid ((L ⟨#[45, 42, 95]⟩).contains c = true) := Lib.hid (by rw [L_lit]; exact h3)
    have hcl : xl.count c ≤ xl.length := List.count_le_length
    clear hv h2 hX0 hX1 hXz h3
    go_wp2_with fail
    refine (contains_any ⟨#[45, 42, 95]⟩ c _ h4).mono ?_
    rintro e w3 ⟨rfl, rfl⟩
    rw [H3.out]
    go_wp2_with fail
    refine (Tryd.strings_Count_one X c _).mono ?_
    rintro e w4 ⟨rfl, rfl⟩
    rw [show Lib.countByte X.data.toList c = (L X).count c from rfl, HXL.out]
    generalize xl.count c = n at *
  · go_wp2_with fail
    go_ret
    rw [HV.out]
    exact ⟨rfl, b1⟩
  · have q9 : (⟨#[32, 9]⟩ : ByteArray) ++ ⟨#[c]⟩ = ⟨#[32, 9, c]⟩ := by apply L_inj; rw [L_append, L_lit, L_lit, L_lit]; rfl
    go_wp2_with fail
    refine (trimCs_any X ⟨#[32, 9, c]⟩ _ (by omega) (by show 3 < 4294967281; omega) (by rw [L_lit]; intro b hb; simp at hb; rcases hb with rfl | rfl | rfl; decide; decide; exact h4)).mono ?_
    rintro e w5 ⟨rfl, b5⟩
    rw [HXL.out, show L ⟨#[32, 9, c]⟩ = [32, 9, c] from L_lit _]
    have bb := b1.trans (b5.mono z1)
    have hv := HV.out
    by_cases he : Lib.trimS xl [32, 9, c] = []
    · rw [decide_eq_true he] at hv
      have HV2 := Lib.hid hv
      rw [he, show S ([] : List UInt8) = ⟨#[]⟩ from rfl]
      clear hv HV he
      go_wp2_with fail
      go_ret
      rw [HV2.out]
      exact ⟨rfl, bb⟩
    · rw [decide_eq_false he] at hv
      have HV2 := Lib.hid hv
      obtain ⟨u1, u2, u3⟩ := bytes_some (a := S (Lib.trimS xl [32, 9, c])) (fun h => he (List.eq_nil_of_length_eq_zero (by simpa using h)))
      generalize S (Lib.trimS xl [32, 9, c]) = Z at *
      clear hv HV he
      go_wp2_with fail
      go_ret
      rw [HV2.out]
      exact ⟨rfl, bb⟩

set_option maxHeartbeats 1000000 in
set_option maxRecDepth 100000 in
theorem closes_any (s : ByteArray) (c : UInt8) (n : Int) (w : World) (hs : s.size ≤ 1048576) (hc : c.toNat < 128) (_ : -9223372036854775808 ≤ n ∧ n ≤ 9223372036854775807) :
    Calls Tryd.prog 70 #[.string s, .int .u8 (c.toNat : Int), .int .i64 n] w fun e w' => e = .returned (.bool (closesT (L s) c n)) ∧ Below w.heap.size w w' := by
  have hle := restT_of_le s
  obtain ⟨xl, hx⟩ : ∃ xl, restT (L s) = xl := ⟨_, rfl⟩
  obtain ⟨k, hk⟩ : ∃ k, colT 0 (L s) = k := ⟨_, rfl⟩
  obtain ⟨i, hi⟩ : ∃ i, rowT c xl = i := ⟨_, rfl⟩
  obtain ⟨r, hr⟩ : ∃ r, xl.drop i = r := ⟨_, rfl⟩
  have hil : i ≤ xl.length := by rw [← hi]; exact rowT_le _ _
  have hd : closesT (L s) c n = (decide (k ≤ 3) && decide (max n 1 ≤ (i : Int)) && blankT r) := by
    unfold closesT; rw [hx, hk, hi, hr]; rfl
  rw [hx] at hle
  obtain ⟨V, hV⟩ : ∃ V, closesT (L s) c n = V := ⟨_, rfl⟩
  rw [hV] at hd ⊢
  have HX := Lib.hid hx
  have HK := Lib.hid hk
  have HXL : Hid (rowT c (L (S xl)) = i) := Lib.hid (by rw [L_S]; exact hi)
  have hRx : (S xl).extract i (S xl).size = S r := by rw [S_drop, hr]
  have hrl : r.length ≤ xl.length := by rw [← hr]; simp
  have HRL : Hid (L (S r) = r) := Lib.hid (by simp)
  have hRs : (S r).size ≤ 1048576 := by rw [size_S]; omega
  have hXs : (S xl).size = xl.length := by simp
  have hXn : i ≤ (S xl).size := by omega
  have hXm : (S xl).size ≤ 1048576 := by omega
  clear hx hk hi hr hV hXs
  go_enter Tryd.func70, Tryd.ntmps70
  go_wp2_with fail
  refine (behind_any s _ hs).mono ?_
  rintro e w1 ⟨rfl, b1⟩
  rw [HX.out, HK.out]
  have HXX : Hid (S xl = S xl) := Lib.hid rfl
  generalize S xl = X at *
  generalize S r = R at *
  clear HXX
  go_wp2_with fail
  refine (row_any X c _ hc (by omega)).mono ?_
  rintro e w2 ⟨rfl, b2⟩
  rw [HXL.out]
  have bb2 := b1.trans (b2.mono b1.size)
  have z2 := bb2.size
  clear b1 b2
  by_cases h1 : k ≤ 3
  · by_cases h2 : max n 1 ≤ (i : Int)
    · rw [decide_eq_true h1, decide_eq_true h2] at hd
      have HD := Lib.hid hd
      clear hd
      go_wp2_with fail
      refine (blank_any R _ (by omega)).mono ?_
      rintro e w3 ⟨rfl, b3⟩
      rw [HRL.out]
      go_wp2_with fail
      go_ret
      rw [HD.out]
      exact ⟨rfl, bb2.trans (b3.mono z2)⟩
    · rw [decide_eq_true h1, decide_eq_false h2] at hd
      have HD := Lib.hid hd
      have q : decide (max n 1 ≤ (i : Int)) = false := decide_eq_false h2
      clear hd h2
      go_wp2_with fail
      go_ret
      rw [HD.out]
      exact ⟨rfl, bb2⟩
  · rw [decide_eq_false h1] at hd
    have HD := Lib.hid hd
    have q : decide ((k : Int) ≤ 3) = false := decide_eq_false (by omega)
    clear hd h1
    go_wp2_with fail
    go_ret
    rw [HD.out]
    exact ⟨rfl, bb2⟩
end Go.Proofs.YtommebalgghdjaaDoor
