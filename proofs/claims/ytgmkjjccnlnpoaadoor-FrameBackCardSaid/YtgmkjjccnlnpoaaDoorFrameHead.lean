/-
  frame.Heading: its contract.
-/
import Derived.Test.YtgmkjjccnlnpoaaDoorFrameOpen
import Derived.Lib.LastIndexLaws
import Derived.OwnWalk
namespace Go.Proofs.YtgmkjjccnlnpoaaDoor
open Go.RowKit

/-- what may stand ahead of a heading's label -/
def signsOk (ahead : List UInt8) : Bool :=
  !(decide (3 < ahead.length - (Lib.trimLeftB ahead 32).length) || decide ((Lib.trimLeftB ahead 32).length - (Lib.trimLeftB (Lib.trimLeftB ahead 32) 35).length < 1) ||
    decide (6 < (Lib.trimLeftB ahead 32).length - (Lib.trimLeftB (Lib.trimLeftB ahead 32) 35).length) || !Lib.hasPrefix (Lib.trimLeftB (Lib.trimLeftB ahead 32) 35) [32])
/-- a labelled heading: what stands ahead of the label, and the label -/
def headedT (l : List UInt8) : Option (List UInt8 × List UInt8) :=
  if Lib.hasSuffix (Lib.trimRightB l 32) [125] then
    if 0 ≤ Lib.lastIndex (Lib.trimSuffix (Lib.trimRightB l 32) [125]) [123, 61] then
      if labelT ((Lib.trimSuffix (Lib.trimRightB l 32) [125]).drop ((Lib.lastIndex (Lib.trimSuffix (Lib.trimRightB l 32) [125]) [123, 61]).toNat + 2)) then
        if signsOk ((Lib.trimSuffix (Lib.trimRightB l 32) [125]).take (Lib.lastIndex (Lib.trimSuffix (Lib.trimRightB l 32) [125]) [123, 61]).toNat) then
          some ((Lib.trimSuffix (Lib.trimRightB l 32) [125]).take (Lib.lastIndex (Lib.trimSuffix (Lib.trimRightB l 32) [125]) [123, 61]).toNat, (Lib.trimSuffix (Lib.trimRightB l 32) [125]).drop ((Lib.lastIndex (Lib.trimSuffix (Lib.trimRightB l 32) [125]) [123, 61]).toNat + 2))
        else none
      else none
    else none
  else none
def headedV : Option (List UInt8 × List UInt8) → Value
  | none => .tuple #[.string ⟨#[]⟩, .string ⟨#[]⟩, .bool false]
  | some (a, t) => .tuple #[.string (S a), .string (S t), .bool true]

theorem lastIndex_room (s : List UInt8) (h : 0 ≤ Lib.lastIndex s [123, 61]) : (Lib.lastIndex s [123, 61]).toNat + 2 ≤ s.length := by
  unfold Lib.lastIndex at h ⊢
  split at h
  · rename_i h2
    rw [if_pos h2]
    rcases Lib.lastOcc_spec s [123, 61] (s.length - ([123, 61] : List UInt8).length + 1) with ⟨h3, _⟩ | ⟨i, hi, h3, h4, _⟩
    · rw [h3] at h; omega
    · rw [h3]
      rcases Lib.occAt_room h4 with h5 | h5
      · simpa using h5
      · cases h5
  · omega
theorem trimL_le (l : List UInt8) (c : UInt8) : (Lib.trimLeftB l c).length ≤ l.length := (List.dropWhile_sublist _).length_le

set_option maxHeartbeats 1500000 in
set_option maxRecDepth 100000 in
theorem heading_any (s : ByteArray) (w : World) (hs : s.size ≤ 1048576) :
    Calls Tryd.prog 8 #[.string s] w fun e w' => e = .returned (headedV (headedT (L s))) ∧ Below w.heap.size w w' := by
  obtain ⟨V, hV⟩ : ∃ V, headedT (L s) = V := ⟨_, rfl⟩
  rw [hV]
  unfold headedT at hV
  have hT := trimR_le (L s)
  rw [length_L] at hT
  have h1 : Hid (∀ w, Calls Tryd.prog 17 #[.string s, .string ⟨#[32]⟩] w fun e w' => e = .returned (.string (S (Lib.trimRightB (L s) 32))) ∧ w = w') := Lib.hid fun w => trimRight1_any s 32 (by decide) w (by omega)
  generalize Lib.trimRightB (L s) 32 = t at *
  have h2 : Hid (∀ w, Calls Tryd.prog 16 #[.string (S t), .string ⟨#[125]⟩] w fun e w' => e = .returned (.tuple #[.string (S (Lib.trimSuffix t [125])), .bool (Lib.hasSuffix t [125])]) ∧ w' = w) := Lib.hid fun w => Tryd.strings_CutSuffix (S t) ⟨#[125]⟩ w (by simp [S]; omega)
  have hq := trimSuf_le t [125]
  cases hsu : Lib.hasSuffix t [125]
  · rw [hsu] at h2 hV
    have HV : Hid (V = none) := Lib.hid (by rw [← hV]; rfl)
    clear hV hsu hq
    go_enter Tryd.func8, Tryd.ntmps8
    go_wp2_with fail
    refine (h1.out _).mono ?_
    rintro e w1 ⟨rfl, rfl⟩
    go_wp2_with fail
    refine (h2.out _).mono ?_
    rintro e w1 ⟨rfl, rfl⟩
    go_wp2_with fail
    go_ret3
    rw [HV.out]
    exact ⟨rfl, Below.refl _ _⟩
  · rw [hsu] at h2 hV
    rw [if_pos rfl] at hV
    generalize Lib.trimSuffix t [125] = q at *
    obtain ⟨R, hR⟩ : ∃ R, S q = R := ⟨_, rfl⟩
    have hLR : L R = q := by rw [← hR, L_S]
    rw [hR] at h2
    subst hLR
    clear hR hsu
    rw [length_L] at hq
    have h3 : Hid (∀ w, Calls Tryd.prog 18 #[.string R, .string ⟨#[123, 61]⟩] w fun e w' => e = .returned (.int .i64 (Lib.lastIndex (L R) [123, 61])) ∧ w' = w) := Lib.hid fun w => Tryd.strings_LastIndex R ⟨#[123, 61]⟩ (by omega) w
    have hroom := lastIndex_room (L R)
    rw [length_L] at hroom
    generalize Lib.lastIndex (L R) [123, 61] = K at *
    by_cases hK : 0 ≤ K
    · rw [if_pos hK] at hV
      have hroom := hroom hK
      obtain ⟨K, rfl⟩ := Int.eq_ofNat_of_zero_le hK
      simp only [Int.toNat_natCast] at hV hroom
      have e1 : (L R).drop (K + 2) = L (R.extract (K + 2) R.size) := by rw [L_extract, ← length_L, List.take_length]
      have e2 : (L R).take K = L (R.extract 0 K) := by rw [L_extract, List.drop_zero]
      rw [e1, e2] at hV
      have h4 : Hid (∀ w, Calls Tryd.prog 19 #[.string (R.extract (K + 2) R.size)] w fun e w' => e = .returned (.bool (labelT (L (R.extract (K + 2) R.size)))) ∧ Below w.heap.size w w') := Lib.hid fun w => label_any _ w (by rw [ByteArray.size_extract]; omega)
      have x1 : (0 : Int) ≤ (K : Int) + 2 := by omega
      have x2 : (K : Int) + 2 ≤ (R.size : Int) := by omega
      have x3 : ((K : Int) + 2).toNat = K + 2 := by omega
      have x4 : (K : Int) ≤ (R.size : Int) := by omega
      clear e1 e2
      cases hlb : labelT (L (R.extract (K + 2) R.size))
      · rw [hlb] at h4 hV
        have HV : Hid (V = none) := Lib.hid (by rw [← hV]; rfl)
        clear hV hlb
        go_enter Tryd.func8, Tryd.ntmps8
        go_wp2_with fail
        refine (h1.out _).mono ?_
        rintro e w1 ⟨rfl, rfl⟩
        go_wp2_with fail
        refine (h2.out _).mono ?_
        rintro e w1 ⟨rfl, rfl⟩
        go_wp2_with fail
        refine (h3.out _).mono ?_
        rintro e w1 ⟨rfl, rfl⟩
        go_wp2_with fail
        refine (h4.out _).mono ?_
        rintro e w2 ⟨rfl, b2⟩
        go_wp2_with fail
        all_goals
          go_ret3
          rw [HV.out]
          exact ⟨rfl, b2⟩
      · rw [hlb] at h4 hV
        rw [if_pos rfl] at hV
        have hu : (R.extract 0 K).size = K := by rw [ByteArray.size_extract]; omega
        have hlen : (L (R.extract 0 K)).length = K := by rw [length_L, hu]
        generalize hlbe : R.extract (K + 2) R.size = lb at *
        generalize hue : R.extract 0 K = u at *
        have hx := trimL_le (L u) 32
        have h5 : Hid (∀ w, Calls Tryd.prog 20 #[.string u, .string ⟨#[32]⟩] w fun e w' => e = .returned (.string (S (Lib.trimLeftB (L u) 32))) ∧ w' = w) := Lib.hid fun w => Tryd.strings_TrimLeft_one u 32 (by decide) w
        have hsg : signsOk (L u) = signsOk (L u) := rfl
        conv at hsg => rhs; unfold signsOk
        generalize Lib.trimLeftB (L u) 32 = x at *
        have hy := trimL_le x 35
        have h6 : Hid (∀ w, Calls Tryd.prog 20 #[.string (S x), .string ⟨#[35]⟩] w fun e w' => e = .returned (.string (S (Lib.trimLeftB x 35))) ∧ w' = w) := Lib.hid fun w => Tryd.strings_TrimLeft_one (S x) 35 (by decide) w
        generalize Lib.trimLeftB x 35 = y at *
        have h7 : Hid (∀ w, Calls Tryd.prog 21 #[.string (S y), .string ⟨#[32]⟩] w fun e w' => e = .returned (.bool (Lib.hasPrefix y [32])) ∧ w' = w) := Lib.hid fun w => Tryd.strings_HasPrefix (S y) ⟨#[32]⟩ w
        have zx : (S x).size = x.length := by simp [S]
        have zy : (S y).size = y.length := by simp [S]
        rw [hlen] at hsg hx
        clear hlb hlen
        by_cases hA : 3 < K - x.length
        · rw [decide_eq_true hA] at hsg
          simp only [Bool.true_or, Bool.not_true] at hsg
          have dA : decide ((3 : Int) < (K : Int) - (x.length : Int)) = true := decide_eq_true (by omega)
          have HV : Hid (V = none) := Lib.hid (by rw [← hV, hsg]; rfl)
          clear hV hsg
          go_enter Tryd.func8, Tryd.ntmps8
          go_wp2_with fail
          refine (h1.out _).mono ?_
          rintro e w1 ⟨rfl, rfl⟩
          go_wp2_with fail
          refine (h2.out _).mono ?_
          rintro e w1 ⟨rfl, rfl⟩
          go_wp2_with fail
          refine (h3.out _).mono ?_
          rintro e w1 ⟨rfl, rfl⟩
          go_wp2_with fail
          refine (h4.out _).mono ?_
          rintro e w2 ⟨rfl, b2⟩
          go_wp2_with fail
          refine (h5.out _).mono ?_
          rintro e w3 ⟨rfl, rfl⟩
          go_wp2_with fail
          refine (h6.out _).mono ?_
          rintro e w3 ⟨rfl, rfl⟩
          go_wp2_with fail
          all_goals
            go_ret3
            rw [HV.out]
            exact ⟨rfl, b2⟩
        · rw [decide_eq_false hA, Bool.false_or] at hsg
          have dA : decide ((3 : Int) < (K : Int) - (x.length : Int)) = false := decide_eq_false (by omega)
          by_cases hB : x.length - y.length < 1
          · rw [decide_eq_true hB] at hsg
            simp only [Bool.true_or, Bool.not_true] at hsg
            have dB : decide ((x.length : Int) - (y.length : Int) < 1) = true := decide_eq_true (by omega)
            have HV : Hid (V = none) := Lib.hid (by rw [← hV, hsg]; rfl)
            clear hV hsg
            go_enter Tryd.func8, Tryd.ntmps8
            go_wp2_with fail
            refine (h1.out _).mono ?_
            rintro e w1 ⟨rfl, rfl⟩
            go_wp2_with fail
            refine (h2.out _).mono ?_
            rintro e w1 ⟨rfl, rfl⟩
            go_wp2_with fail
            refine (h3.out _).mono ?_
            rintro e w1 ⟨rfl, rfl⟩
            go_wp2_with fail
            refine (h4.out _).mono ?_
            rintro e w2 ⟨rfl, b2⟩
            go_wp2_with fail
            refine (h5.out _).mono ?_
            rintro e w3 ⟨rfl, rfl⟩
            go_wp2_with fail
            refine (h6.out _).mono ?_
            rintro e w3 ⟨rfl, rfl⟩
            go_wp2_with fail
            all_goals
              go_ret3
              rw [HV.out]
              exact ⟨rfl, b2⟩
          · rw [decide_eq_false hB, Bool.false_or] at hsg
            have dB : decide ((x.length : Int) - (y.length : Int) < 1) = false := decide_eq_false (by omega)
            by_cases hC : 6 < x.length - y.length
            · rw [decide_eq_true hC] at hsg
              simp only [Bool.true_or, Bool.not_true] at hsg
              have dC : decide ((6 : Int) < (x.length : Int) - (y.length : Int)) = true := decide_eq_true (by omega)
              have HV : Hid (V = none) := Lib.hid (by rw [← hV, hsg]; rfl)
              clear hV hsg
              go_enter Tryd.func8, Tryd.ntmps8
              go_wp2_with fail
              refine (h1.out _).mono ?_
              rintro e w1 ⟨rfl, rfl⟩
              go_wp2_with fail
              refine (h2.out _).mono ?_
              rintro e w1 ⟨rfl, rfl⟩
              go_wp2_with fail
              refine (h3.out _).mono ?_
              rintro e w1 ⟨rfl, rfl⟩
              go_wp2_with fail
              refine (h4.out _).mono ?_
              rintro e w2 ⟨rfl, b2⟩
              go_wp2_with fail
              refine (h5.out _).mono ?_
              rintro e w3 ⟨rfl, rfl⟩
              go_wp2_with fail
              refine (h6.out _).mono ?_
              rintro e w3 ⟨rfl, rfl⟩
              go_wp2_with fail
              all_goals
                go_ret3
                rw [HV.out]
                exact ⟨rfl, b2⟩
            · rw [decide_eq_false hC, Bool.false_or, Bool.not_not] at hsg
              have dC : decide ((6 : Int) < (x.length : Int) - (y.length : Int)) = false := decide_eq_false (by omega)
              cases hD : Lib.hasPrefix y [32]
              · rw [hD] at hsg h7
                have HV : Hid (V = none) := Lib.hid (by rw [← hV, hsg]; rfl)
                clear hV hsg hD
                go_enter Tryd.func8, Tryd.ntmps8
                go_wp2_with fail
                refine (h1.out _).mono ?_
                rintro e w1 ⟨rfl, rfl⟩
                go_wp2_with fail
                refine (h2.out _).mono ?_
                rintro e w1 ⟨rfl, rfl⟩
                go_wp2_with fail
                refine (h3.out _).mono ?_
                rintro e w1 ⟨rfl, rfl⟩
                go_wp2_with fail
                refine (h4.out _).mono ?_
                rintro e w2 ⟨rfl, b2⟩
                go_wp2_with fail
                refine (h5.out _).mono ?_
                rintro e w3 ⟨rfl, rfl⟩
                go_wp2_with fail
                refine (h6.out _).mono ?_
                rintro e w3 ⟨rfl, rfl⟩
                go_wp2_with (go_at_call 21; refine (h7.out _).mono ?_; rintro e w4 ⟨rfl, rfl⟩)
                all_goals
                  go_ret3
                  rw [HV.out]
                  exact ⟨rfl, b2⟩
              · rw [hD] at hsg h7
                have HV : Hid (V = some (L u, L lb)) := Lib.hid (by rw [← hV, hsg]; rfl)
                have HU : Hid (S (L u) = u ∧ S (L lb) = lb) := Lib.hid ⟨S_L _, S_L _⟩
                clear hV hsg hD
                go_enter Tryd.func8, Tryd.ntmps8
                go_wp2_with fail
                refine (h1.out _).mono ?_
                rintro e w1 ⟨rfl, rfl⟩
                go_wp2_with fail
                refine (h2.out _).mono ?_
                rintro e w1 ⟨rfl, rfl⟩
                go_wp2_with fail
                refine (h3.out _).mono ?_
                rintro e w1 ⟨rfl, rfl⟩
                go_wp2_with fail
                refine (h4.out _).mono ?_
                rintro e w2 ⟨rfl, b2⟩
                go_wp2_with fail
                refine (h5.out _).mono ?_
                rintro e w3 ⟨rfl, rfl⟩
                go_wp2_with fail
                refine (h6.out _).mono ?_
                rintro e w3 ⟨rfl, rfl⟩
                go_wp2_with (go_at_call 21; refine (h7.out _).mono ?_; rintro e w4 ⟨rfl, rfl⟩)
                go_quiet (fail)
                go_wp2_with fail
                go_ret3
                rw [HV.out]
                unfold headedV
                simp only
                rw [HU.out.1, HU.out.2]
                exact ⟨rfl, below_drewN' b2 _⟩
    · rw [if_neg hK] at hV
      have HV : Hid (V = none) := Lib.hid hV.symm
      have y1 : K < 0 := by omega
      clear hV hroom hK
      go_enter Tryd.func8, Tryd.ntmps8
      go_wp2_with fail
      refine (h1.out _).mono ?_
      rintro e w1 ⟨rfl, rfl⟩
      go_wp2_with fail
      refine (h2.out _).mono ?_
      rintro e w1 ⟨rfl, rfl⟩
      go_wp2_with fail
      refine (h3.out _).mono ?_
      rintro e w1 ⟨rfl, rfl⟩
      go_wp2_with fail
      all_goals
        go_ret3
        rw [HV.out]
        exact ⟨rfl, Below.refl _ _⟩
end Go.Proofs.YtgmkjjccnlnpoaaDoor
