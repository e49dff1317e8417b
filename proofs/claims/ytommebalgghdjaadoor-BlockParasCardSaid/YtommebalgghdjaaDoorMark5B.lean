/-
  mark: the contract of Item.
-/
import Derived.Test.YtommebalgghdjaaDoorMark4B
namespace Go.Proofs.YtommebalgghdjaaDoor
open Go.RowKit

theorem L_at {l : List UInt8} {n : Nat} {c : UInt8} {rest : List UInt8} (h : l.drop n = c :: rest) : ∃ h : n < (S l).size, (S l)[n]'h = c ∧ (S l).extract (n + 1) (S l).size = S rest := by
  have hl : n < l.length := by
    rcases Nat.lt_or_ge n l.length with h1 | h1
    · exact h1
    · rw [List.drop_eq_nil_of_le h1] at h; cases h
  have h2 := List.drop_eq_getElem_cons hl
  rw [h] at h2
  injection h2 with h3 h4
  exact ⟨by simpa using hl, S_at _ (by rw [List.getElem?_eq_getElem hl, ← h3]), by rw [S_drop, ← h4]⟩

theorem item_end (c vv a a' : Int) (R : ByteArray) (i i' : Nat) (h1 : a = a') (h2 : i = i') : Ending.returned (Value.tuple #[.int .u8 c, .int .i64 vv, .int .i64 a, .string (R.extract i R.size), .bool true]) = Ending.returned (Value.tuple #[.int .u8 c, .int .i64 vv, .int .i64 a', .string (R.extract i' R.size), .bool true]) := by
  subst h1; subst h2; rfl

set_option maxHeartbeats 4000000 in
set_option maxRecDepth 100000 in
theorem item_any (s : ByteArray) (w : World) (hs : s.size ≤ 1048576) :
    Calls Tryd.prog 74 #[.string s] w fun e w' => e = .returned (itemV (itemT (L s))) ∧ Below w.heap.size w w' := by
  have hcs := itemT_cases (L s)
  have hle := restT_of_le s
  obtain ⟨xl, hx⟩ : ∃ xl, restT (L s) = xl := ⟨_, rfl⟩
  obtain ⟨k, hk⟩ : ∃ k, colT 0 (L s) = k := ⟨_, rfl⟩
  obtain ⟨n, hn⟩ : ∃ n, (digT xl).length = n := ⟨_, rfl⟩
  obtain ⟨v, hv⟩ : ∃ v, valT (digT xl) = v := ⟨_, rfl⟩
  obtain ⟨V, hV⟩ : ∃ V, itemT (L s) = V := ⟨_, rfl⟩
  obtain ⟨rl, hrl⟩ : ∃ rl, ruleT (L s) = rl := ⟨_, rfl⟩
  have hkl := (colT_le (L s) 0).2
  rw [hk, length_L] at hkl
  have hnl : n ≤ xl.length := by
    rw [← hn]; unfold digT
    have h1 := (List.takeWhile_sublist isD (l := xl.take 9)).length_le
    have h2 := List.length_take_le 9 xl
    simp at h1; omega
  rw [hV] at hcs ⊢
  rw [hx] at hcs hle
  rw [hk, hn, hv, hrl] at hcs
  have HX := Lib.hid hx
  have HK := Lib.hid hk
  have HRL := Lib.hid hrl
  have HN : Hid ((digT (L (S xl))).length = n) := Lib.hid (by rw [L_S]; exact hn)
  have HVL : Hid (valT (digT (L (S xl))) = v) := Lib.hid (by rw [L_S]; exact hv)
  have hXs : xl.length = (S xl).size := by simp
  have hXz : xl = [] → S xl = ⟨#[]⟩ := fun e => by rw [e]; rfl
  have hXne : (∃ c r, xl = c :: r) → ∃ c r, xl = c :: r ∧ ∃ h : 0 < (S xl).size, (S xl)[0]'h = c := fun ⟨c, r, e⟩ => ⟨c, r, e, by rw [size_S, e]; simp, S_at _ (by rw [e]; rfl)⟩
  have hXat : ∀ c rest, xl.drop n = c :: rest → ∃ h : n < (S xl).size, (S xl)[n]'h = c ∧ (S xl).extract (n + 1) (S xl).size = S rest := fun c rest e => L_at e
  have hv9 : v < 1000000000 := by
    have h1 := valT_lt (digT xl) (fun b hb => List.all_eq_true.1 (List.all_takeWhile (p := isD) (l := xl.take 9)) b hb)
    have h2 : 10 ^ (digT xl).length ≤ 10 ^ 9 := Nat.pow_le_pow_right (by decide) (by
      unfold digT
      have h1 := (List.takeWhile_sublist isD (l := xl.take 9)).length_le
      have h2 := List.length_take_le 9 xl
      have h3 : (xl.take 9).length ≤ 9 := by simp; omega
      omega)
    have h3 : (10 : Nat) ^ 9 = 1000000000 := by decide
    omega
  clear hx hk hn hv hV hrl
  have HXX : Hid (S (restT (L s)) = S xl) := Lib.hid (by rw [HX.out])
  generalize S xl = X at *
  have hXm : X.size ≤ 1048576 := by omega
  go_enter Tryd.func74, Tryd.ntmps74
  go_wp2_with fail
  refine (behind_any s _ hs).mono ?_
  rintro e w1 ⟨rfl, b1⟩
  rw [HK.out, HXX.out]
  obtain ⟨m, hm⟩ : ∃ m, decide ((k : Int) ≤ 3) = m := ⟨_, rfl⟩
  rw [hm]
  have HM := Lib.hid hm
  have z1 := b1.size
  clear hm
  have HCS := Lib.hid hcs
  clear hcs
  go_upto_region 2 with fail
  go_cut [30] (fun s30 wx => ((s30 = .bool true ∧ V = none) ∨ (s30 = .bool false ∧ k ≤ 3 ∧ (∃ c r, xl = c :: r) ∧ (((xl.drop n = [] ∧ V = none) ∨
      ∃ c rest, xl.drop n = c :: rest ∧ ((signOk n c = false ∧ V = none) ∨
        (signOk n c = true ∧ (((∃ b t, rest = b :: t ∧ b ≠ 32) ∧ V = none) ∨
          ((rest = [] ∨ ∃ t, rest = 32 :: t) ∧ V = some (c, (if n = 0 then -1 else (v : Int)), k + n + 1 + gapT rest, rest.drop (min (gapT rest) rest.length)))))))))) ∧ Below w.heap.size w wx)
  case first =>
    rcases HCS.out with ⟨h1, hv⟩ | ⟨h1, h2, hv⟩ | ⟨h1, h2, h3, hv⟩ | ⟨h1, h2, h3, h4⟩
    · obtain rfl : m = false := by rw [← HM.out]; exact decide_eq_false (by omega)
      have HV := Lib.hid hv
      clear hv h1 HM hXz hXne hXat HCS
      go_wp2_with fail
      go_meet
      exact ⟨.inl ⟨rfl, HV.out⟩, b1⟩
    · obtain rfl : m = true := by rw [← HM.out]; exact decide_eq_true (by omega)
      have HV := Lib.hid hv
      have q := hXz h2
      clear hv h1 h2 HM hXz hXne hXat HCS HN HVL hXs hnl
      subst q
      go_wp2_with fail
      go_meet
      exact ⟨.inl ⟨rfl, HV.out⟩, b1⟩
    · obtain rfl : m = true := by rw [← HM.out]; exact decide_eq_true (by omega)
      have HV := Lib.hid hv
      have H3 := Lib.hid h3
      obtain ⟨c, r, e, g0, g1⟩ := hXne h2
      obtain ⟨t1, t2, t3⟩ := bytes_some (a := X) (by omega)
      clear hv h1 h2 h3 HM hXz hXne hXat HCS e
      go_wp2_with fail
      refine (rule_any s _ hs).mono ?_
      rintro e w2 ⟨rfl, b2⟩
      rw [HRL.out, H3.out]
      go_wp2_with fail
      go_meet
      exact ⟨.inl ⟨rfl, HV.out⟩, b1.trans (b2.mono z1)⟩
    · obtain rfl : m = true := by rw [← HM.out]; exact decide_eq_true (by omega)
      have H1 := Lib.hid h1
      have H2 := Lib.hid h2
      have H3 := Lib.hid h3
      have H4 := Lib.hid h4
      obtain ⟨c, r, e, g0, g1⟩ := hXne h2
      obtain ⟨t1, t2, t3⟩ := bytes_some (a := X) (by omega)
      clear h4 h1 h2 h3 HM hXz hXne hXat HCS e
      go_wp2_with fail
      refine (rule_any s _ hs).mono ?_
      rintro e w2 ⟨rfl, b2⟩
      rw [HRL.out, H3.out]
      go_wp2_with fail
      go_meet
      exact ⟨.inr ⟨rfl, H1.out, H2.out, H4.out⟩, b1.trans (b2.mono z1)⟩
  case rest =>
    obtain ⟨hc, bbc⟩ := hcut
    have zc := bbc.size
    clear HCS
    rcases hc with ⟨rfl, hv⟩ | ⟨rfl, h1, h2, h3⟩
    · have HV := Lib.hid hv
      clear hv hXz hXne hXat
      go_wp2_with fail
      refine bodyPost_ret (by simp [results, Tryd.results74, go_sem]; try rfl) rfl ?_
      rw [HV.out]
      exact ⟨rfl, bbc⟩
    · have H3 := Lib.hid h3
      have H2 := Lib.hid h2
      have H1 := Lib.hid h1
      clear h3 h2 h1
      go_wp2_with fail
      refine (number_any X _ hXm).mono ?_
      rintro e w2 ⟨rfl, b2⟩
      rw [HN.out, HVL.out]
      have bb2 := bbc.trans (b2.mono zc)
      have z2 := bb2.size
      clear bbc b2 b1 z1
      go_upto_if 37 with fail
      go_cut [11] (fun s11 wx => s11 = .int .i64 (if n = 0 then -1 else (v : Int)) ∧ Below w.heap.size w wx)
      case first =>
        by_cases h0 : n = 0
        · have q : ((n : Int) == 0) = true := beq_iff_eq.2 (by omega)
          have HH : Hid ((if n = 0 then -1 else (v : Int)) = -1) := Lib.hid (if_pos h0)
          clear h0
          go_wp2_with fail
          go_meet
          exact ⟨by rw [HH.out], bb2⟩
        · have q : ((n : Int) == 0) = false := beq_eq_false_iff_ne.2 (by omega)
          have HH : Hid ((if n = 0 then -1 else (v : Int)) = v) := Lib.hid (if_neg h0)
          clear h0
          go_wp2_with fail
          go_meet
          exact ⟨by rw [HH.out], bb2⟩
      case rest =>
        obtain ⟨rfl, bb3⟩ := hcut
        have z3 := bb3.size
        clear bb2 z2
        have HVB : Hid (-1 ≤ (if n = 0 then -1 else (v : Int)) ∧ (if n = 0 then -1 else (v : Int)) < 1000000000) := Lib.hid (by split <;> omega)
        generalize (if n = 0 then -1 else (v : Int)) = vv at *
        go_upto_region 7 with fail
        go_cut [68] (fun s68 wx => ((s68 = .bool true ∧ V = none) ∨ (s68 = .bool false ∧ ∃ c rest, xl.drop n = c :: rest ∧
          (((∃ b t, rest = b :: t ∧ b ≠ 32) ∧ V = none) ∨ ((rest = [] ∨ ∃ t, rest = 32 :: t) ∧ V = some (c, vv, k + n + 1 + gapT rest, rest.drop (min (gapT rest) rest.length)))))) ∧ Below w.heap.size w wx)
        case first =>
          rcases H3.out with ⟨h4, hv⟩ | ⟨c, rest, h4, h5⟩
          · have hnx : n = X.size := by
              have := congrArg List.length h4
              rw [List.length_drop, List.length_nil] at this; omega
            have HV := Lib.hid hv
            clear hv h4 hXz hXne hXat
            subst hnx
            go_wp2_with fail
            go_meet
            exact ⟨.inl ⟨rfl, HV.out⟩, bb3⟩
          · obtain ⟨g0, g1, g2⟩ := hXat c rest h4
            have q : ((n : Int) == (X.size : Int)) = false := beq_eq_false_iff_ne.2 (by omega)
            have H5 := Lib.hid h5
            have H4 := Lib.hid h4
            clear g2
            by_cases h0 : n = 0
            · subst h0
              have hsg : signOk 0 c = (L ⟨#[45, 43, 42]⟩).contains c := rfl
              have q00 : ((0 : Int) == (X.size : Int)) = false := beq_eq_false_iff_ne.2 (by omega)
              clear h5 h4 hXz hXne hXat
              have hc256 : c.toNat < 256 := c.toNat_lt
              go_wp2_with fail
              refine (itemsB_any c _).mono ?_
              rintro e w4 ⟨rfl, b4⟩
              have bb3 := bb3.trans (b4.mono z3)
              rcases H5.out with ⟨h6, hv⟩ | ⟨h6, h7⟩
              · have HV := Lib.hid hv
                rw [← hsg, h6]
                clear hv h6 hsg
                go_wp2_with fail
                go_meet
                exact ⟨.inl ⟨rfl, HV.out⟩, bb3⟩
              · rw [← hsg, h6]
                have H7 := Lib.hid h7
                clear h7 h6 hsg
                go_wp2_with fail
                go_meet
                exact ⟨.inr ⟨rfl, c, rest, H4.out, H7.out⟩, bb3⟩
            · have q0 : ((n : Int) == 0) = false := beq_eq_false_iff_ne.2 (by omega)
              have q1 : decide (0 < (n : Int)) = true := decide_eq_true (by omega)
              have q11 : decide (0 < n) = true := decide_eq_true (by omega)
              have q12 : 0 < n := by omega
              have hsg : signOk n c = (c == 46 || c == 41) := if_neg h0
              clear h5 h4 hXz hXne hXat h0
              rcases H5.out with ⟨h6, hv⟩ | ⟨h6, h7⟩
              · have HV := Lib.hid hv
                rw [hsg] at h6
                simp only [Bool.or_eq_false_iff, beq_eq_false_iff_ne] at h6
                have q2 : ((c.toNat : Int) != 46) = true := byte_bne (x := c) (n := 46) (by decide) h6.1
                have q3 : ((c.toNat : Int) != 41) = true := byte_bne (x := c) (n := 41) (by decide) h6.2
                clear hv h6 hsg
                go_wp2_with fail
                go_meet
                exact ⟨.inl ⟨rfl, HV.out⟩, bb3⟩
              · have H7 := Lib.hid h7
                rw [hsg, Bool.or_eq_true, beq_iff_eq, beq_iff_eq] at h6
                rcases h6 with h6 | h6
                · subst h6
                  clear h7 hsg
                  go_wp2_with fail
                  go_meet
                  exact ⟨.inr ⟨rfl, _, rest, H4.out, H7.out⟩, bb3⟩
                · subst h6
                  clear h7 hsg
                  go_wp2_with fail
                  go_meet
                  exact ⟨.inr ⟨rfl, _, rest, H4.out, H7.out⟩, bb3⟩
        case rest =>
          obtain ⟨hc, bb4⟩ := hcut
          clear bb3 z3 hXne hXz
          rcases hc with ⟨rfl, hv⟩ | ⟨rfl, c, rest, h4, h5⟩
          · have HV := Lib.hid hv
            clear hv hXat
            go_wp2_with fail
            refine bodyPost_ret (by simp [results, Tryd.results74, go_sem]; try rfl) rfl ?_
            rw [HV.out]
            exact ⟨rfl, bb4⟩
          · obtain ⟨g0, g1, g2⟩ := hXat c rest h4
            have H5 := Lib.hid h5
            have hrs : rest.length ≤ xl.length := by have := congrArg List.length h4; simp at this; omega
            clear h5 h4 hXat
            have r1 : (n : Int) < (X.size : Int) := by omega
            have r2 : (n : Int) + 1 ≤ (X.size : Int) := by omega
            have r3 : (0 : Int) ≤ (n : Int) := by omega
            have r4 : (0 : Int) ≤ (n : Int) + 1 := by omega
            have r5 : ((n : Int)).toNat = n := by omega
            have r6 : ((n : Int) + 1).toNat = n + 1 := by omega
            have r7 : IntKind.i64.wrap ((n : Int) + 1) = (n : Int) + 1 := IntWalk.i64_in _ (by omega)
            have HRL' : Hid (L (S rest) = rest) := Lib.hid (by simp)
            have hRz : rest = [] → S rest = ⟨#[]⟩ := fun e => by rw [e]; rfl
            have hRs : rest.length = (S rest).size := by simp
            have hR0 : ∀ b t, rest = b :: t → ∃ h : 0 < (S rest).size, (S rest)[0]'h = b := fun b t e => ⟨by rw [size_S, e]; simp, S_at _ (by rw [e]; rfl)⟩
            have HRO : Hid (S (rest.drop (min (gapT rest) rest.length)) = (S rest).extract (min (gapT rest) (S rest).size) (S rest).size) := Lib.hid (by rw [S_drop, hRs])
            generalize S rest = R at *
            have hRm : R.size ≤ 1048576 := by omega
            go_upto_region 9 with fail
            go_quiet (fail)
            generalize hwq : wc.drewN nq = wd at *
            have bb5 : Below w.heap.size w wd := by rw [← hwq]; exact below_drewN' bb4 nq
            have z5 := bb5.size
            clear hwq bb4
            go_upto_region 10 with fail
            go_cut [82] (fun s82 wx => ((s82 = .bool true ∧ V = none) ∨ (s82 = .bool false ∧ V = some (c, vv, k + n + 1 + gapT rest, rest.drop (min (gapT rest) rest.length)))) ∧ Below w.heap.size w wx)
            case first =>
              clear g2
              rcases H5.out with ⟨⟨b, t, h6, h7⟩, hv⟩ | ⟨h6 | ⟨t, h6⟩, hv⟩
              · obtain ⟨i0, i1⟩ := hR0 b t h6
                obtain ⟨t1, t2, t3⟩ := bytes_some (a := R) (by omega)
                have q : ((b.toNat : Int) != 32) = true := byte_bne (x := b) (n := 32) (by decide) h7
                have HV := Lib.hid hv
                clear hv h6 h7 hRz hR0
                go_wp2_with fail
                go_meet
                exact ⟨.inl ⟨rfl, HV.out⟩, bb5⟩
              · have e := hRz h6
                have HV := Lib.hid hv
                clear hv h6 hRz hR0 hRs HRO HRL' hRm
                subst e
                go_wp2_with fail
                go_meet
                exact ⟨.inr ⟨rfl, HV.out⟩, bb5⟩
              · obtain ⟨i0, i1⟩ := hR0 32 t h6
                obtain ⟨t1, t2, t3⟩ := bytes_some (a := R) (by omega)
                have HV := Lib.hid hv
                clear hv h6 hRz hR0
                go_wp2_with fail
                go_meet
                exact ⟨.inr ⟨rfl, HV.out⟩, bb5⟩
            case rest =>
              obtain ⟨hc, bb6⟩ := hcut
              have z6 := bb6.size
              clear hRz hR0 g2 H5 bb5 z5
              rcases hc with ⟨rfl, hv⟩ | ⟨rfl, hv⟩
              · have HV := Lib.hid hv
                clear hv
                go_wp2_with fail
                refine bodyPost_ret (by simp [results, Tryd.results74, go_sem]; try rfl) rfl ?_
                rw [HV.out]
                exact ⟨rfl, bb6⟩
              · have HV := Lib.hid hv
                clear hv
                go_wp2_with fail
                refine (row_any R 32 _ (by decide) (by omega)).mono ?_
                rintro e W7 ⟨rfl, b7⟩
                rw [HRL'.out]
                have bb7 := bb6.trans (b7.mono z6)
                have z7 := bb7.size
                have hgl := rowT_le 32 rest
                have HG : Hid (gapT rest = if 4 < rowT 32 rest ∨ rowT 32 rest = rest.length then 1 else rowT 32 rest) := Lib.hid rfl
                clear bb6 b7 z6
                generalize rowT 32 rest = g at *
                have hcs : (decide (4 < (g : Int)) = true ∧ gapT rest = 1) ∨ (decide (4 < (g : Int)) = false ∧ g = R.size ∧ gapT rest = 1) ∨ (decide (4 < (g : Int)) = false ∧ ((g : Int) == (R.size : Int)) = false ∧ gapT rest = g) := by
                  by_cases h4 : 4 < g
                  · exact .inl ⟨decide_eq_true (by omega), by rw [HG.out, if_pos (.inl h4)]⟩
                  · by_cases h5 : g = R.size
                    · exact .inr (.inl ⟨decide_eq_false (by omega), h5, by rw [HG.out, if_pos (.inr (by omega))]⟩)
                    · exact .inr (.inr ⟨decide_eq_false (by omega), beq_eq_false_iff_ne.2 (by omega), by rw [HG.out, if_neg (by omega)]⟩)
                obtain ⟨hv1, hv2⟩ := HVB.out
                clear HG
                generalize gapT rest = gg at *
                rcases hcs with ⟨h4, rfl⟩ | ⟨h4, rfl, rfl⟩ | ⟨h4, h5, rfl⟩
                all_goals
                  go_wp2_with fail
                  go_quiet (fail)
                  generalize hwq : W7.drewN nq = wd at *
                  go_wp2_with fail
                  refine bodyPost_ret (by simp [results, Tryd.results74, go_sem]; try rfl) rfl ?_
                  have hbf : Below w.heap.size w wd := by rw [← hwq]; exact below_drewN' bb7 nq
                  rw [HV.out]
                  simp only [itemV]
                  rw [HRO.out]
                  exact ⟨item_end _ _ _ _ _ _ _ (by omega) (by omega), hbf⟩
end Go.Proofs.YtommebalgghdjaaDoor
