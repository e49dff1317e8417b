/-
  bowdlerref14.Forest: its contract, for texts whose signs are a forest.
-/
import Derived.Test.YtfdfpimilmhhoaaRefDepths
import Derived.Test.YtfdfpimilmhhoaaRefEsc
import Derived.Test.YtfdfpimilmhhoaaForestLaw
import Derived.Deep.DeepCutAuto
import Derived.Deep.CutBlock
namespace Go.Proofs.Ytfdfpimilmhhoaa
open Go.RowKit
set_option linter.unusedVariables false

theorem Forest.inv_nil {st ts : List (List UInt8)} (h : Forest [] st ts) : st = [] ∧ ts = [] := by
  cases h
  exact ⟨rfl, rfl⟩
theorem Forest.inv {b : UInt8} {r : List UInt8} {st ts : List (List UInt8)} (h : Forest (b :: r) st ts) :
    (b ≠ 60 ∧ Forest r st ts) ∨ (b = 60 ∧ ∃ (body r' : List UInt8) (st' ts' : List (List UInt8)), r = body ++ 62 :: r' ∧ (∀ c ∈ body, c ≠ 62) ∧ fStep (60 :: (body ++ [62])) st = some st' ∧ Forest r' st' ts' ∧ ts = (60 :: (body ++ [62])) :: ts') := by
  cases h with
  | text hb h => exact .inl ⟨hb, h⟩
  | sign hb hs h => exact .inr ⟨rfl, _, _, _, _, rfl, hb, hs, h, rfl⟩
abbrev strCells (l : List (List UInt8)) : List Value := l.map (fun x => Value.string (S x))
theorem Try.infoStrF : (Try.prog.info? 9).map (fun i => (i.zero, i.size, i.bytes)) = some (some (.string ⟨#[]⟩), 1, 16) := by kernel_rfl
theorem Try.elStrs : Elem Try.prog 46 9 1 16 := Elem.mk' Try.underlying46 Try.infoStrF rfl (by decide)
theorem str_one (l : List (List UInt8)) : ∀ u ∈ strCells l, u.oneCell' = true := by
  intro u hu
  obtain ⟨x, _, rfl⟩ := List.mem_map.1 hu
  rfl
theorem fName_go {t : List UInt8} {j : Nat} {c : UInt8} (h : t[j]? = some c) (h1 : c ≠ 32) (h2 : c ≠ 62) : fName (t.drop j) = c :: fName (t.drop (j + 1)) := by
  obtain ⟨hl, he⟩ := List.getElem?_eq_some_iff.1 h
  rw [List.drop_eq_getElem_cons hl, he]
  unfold fName
  rw [List.takeWhile_cons]
  simp [h1, h2]
theorem fName_stop {t : List UInt8} {j : Nat} {c : UInt8} (h : t[j]? = some c) (h1 : c = 32 ∨ c = 62) : fName (t.drop j) = [] := by
  obtain ⟨hl, he⟩ := List.getElem?_eq_some_iff.1 h
  rw [List.drop_eq_getElem_cons hl, he]
  unfold fName
  rw [List.takeWhile_cons]
  rcases h1 with rfl | rfl <;> simp
theorem beq_bytes {a b : ByteArray} (h : a = b) : (a == b) = true ∧ (a.toList == b.toList) = true := by
  subst h
  have h1 : (a.toList == a.toList) = true := beq_self_eq_true _
  refine ⟨?_, h1⟩
  rw [beq_toListBytes]
  exact h1

set_option maxHeartbeats 8000000 in
set_option maxRecDepth 100000 in
theorem refForest_any (s : ByteArray) (ts : List (List UInt8)) (w : World) (h : Forest (L s) [] ts) (hs : s.size ≤ 1073741824) :
    Calls Try.prog 18 #[.string s] w fun e w' => ∃ A c, e = .returned (.tuple #[.slice A ts.length c, .bool true]) ∧ Own w' w.heap.size 9 1 A ts.length c (strCells ts) ∧ Below w.heap.size w w' := by
  have H0 := Lib.hid h
  clear h
  go_enter Try.func18, Try.ntmps18
  go_wp2_with fail
  go_loopw [4, 5, 6] (fun s4 s5 s6 wr => ∃ (i m p : Nat) (A1 A2 : Option Addr) (c1 c2 : Nat) (dn rs st : List (List UInt8)), i ≤ s.size ∧ s6 = .int .i64 (i : Int) ∧ s4 = .slice A1 m c1 ∧ s5 = .slice A2 p c2 ∧ m ≤ i ∧ p ≤ i ∧ Hid (dn.length = m) ∧ Hid (st.length = p) ∧ Hid (Forest ((L s).drop i) st rs) ∧ Hid (dn ++ rs = ts) ∧
      Own wr w.heap.size 9 1 A1 m c1 (strCells dn) ∧ Own wr w.heap.size 9 1 A2 p c2 (strCells st.reverse) ∧ Sep A1 A2 ∧ Below w.heap.size w wr) (fun _ _ s6 _ => s.size - (intOf s6).toNat)
  case atStart => exact ⟨0, 0, 0, none, none, 0, 0, [], ts, [], Nat.zero_le _, rfl, rfl, rfl, Nat.le_refl _, Nat.le_refl _, Lib.hid rfl, Lib.hid rfl, H0, Lib.hid rfl, Own.nil _ _ _ _, Own.nil _ _ _ _, Sep.none_l, Below.refl _ _⟩
  case round =>
    obtain ⟨i, m, p, A1, A2, c1, c2, dn, rs, st, hi, rfl, rfl, rfl, hmi, hpi, HDN, HSL, HF, HTS, hO1, hO2, hsp, hb⟩ := hrel
    have hbs := hb.size
    by_cases hlt : i < s.size
    · have hil : i < (L s).length := by simpa using hlt
      have hdr : (L s).drop i = (L s)[i] :: (L s).drop (i + 1) := List.drop_eq_getElem_cons hil
      have hF := HF.out
      rw [hdr] at hF
      obtain ⟨b, hb0⟩ : ∃ b, s[i]'hlt = b := ⟨_, rfl⟩
      have hbL : (L s)[i] = b := hb0
      rw [hbL] at hF hdr
      have HB := Lib.hid hb0
      have HDR := Lib.hid hdr
      clear hb0 hbL hdr
      rcases hF.inv with ⟨h60, hF2⟩ | ⟨h60, body, r, st', ts', hr, hbody, hst, hF2, hts⟩
      · have q60 : (((s[i]'hlt).toNat : Int) != 60) = true := by rw [HB.out]; exact by have := ref_ne (x := b) (n := 60) (by omega) (by intro e; exact h60 e); simpa [bne] using this
        have HF2 := Lib.hid hF2
        clear hF hF2 h60
        go_wp2_with fail
        go_roundw
        case rel => exact ⟨i + 1, m, p, A1, A2, c1, c2, dn, rs, st, by omega, by go_num, rfl, rfl, by omega, by omega, HDN, HSL, HF2, HTS, hO1, hO2, hsp, hb⟩
        case measure => simp [intOf]; omega
      · have q60 : (((s[i]'hlt).toNat : Int) != 60) = false := by rw [HB.out, h60]; rfl
        obtain ⟨t, ht⟩ : ∃ t, 60 :: (body ++ [62]) = t := ⟨_, rfl⟩
        have htl : t.length = body.length + 2 := by rw [← ht]; simp
        have hdt : (L s).drop i = t ++ r := by rw [HDR.out, h60, hr, ← ht]; simp
        have hdl : body.length + 2 + r.length = s.size - i := by
          have := congrArg List.length hdt
          rw [List.length_drop, List.length_append, htl, length_L] at this
          omega
        obtain ⟨nb, hnb⟩ : ∃ nb, body.length = nb := ⟨_, rfl⟩
        rw [hnb] at htl hdl
        have HG : Hid (∀ e c (he : i + e < s.size), t[e]? = some c → s[i + e]'he = c) := Lib.hid fun e c he h => by
          have h1 : (L s)[i + e]? = some c := by
            rw [← List.getElem?_drop, hdt, List.getElem?_append_left (List.getElem?_eq_some_iff.1 h).1]
            exact h
          obtain ⟨h2, h3⟩ := List.getElem?_eq_some_iff.1 h1
          exact h3
        have HTB : Hid (∀ e, 0 < e → e < nb + 1 → ∃ c, t[e]? = some c ∧ c ≠ 62) := Lib.hid fun e h0 h1 => by
          obtain ⟨e', rfl⟩ : ∃ e', e = e' + 1 := ⟨e - 1, by omega⟩
          have hl : e' < body.length := by omega
          refine ⟨body[e'], ?_, hbody _ (List.getElem_mem hl)⟩
          rw [← ht, List.getElem?_cons_succ, List.getElem?_append_left hl, List.getElem?_eq_getElem hl]
        have HT0 : Hid (t[0]? = some 60) := Lib.hid (by rw [← ht]; rfl)
        have HTE : Hid (t[nb + 1]? = some 62) := Lib.hid (by rw [← ht, List.getElem?_cons_succ, List.getElem?_append_right (by omega), hnb, Nat.sub_self]; rfl)
        rw [ht] at hst hts
        have HST := Lib.hid hst
        have HTS2 := Lib.hid hts
        have HTL := Lib.hid htl
        have HF2 := Lib.hid hF2
        have HDT := Lib.hid hdt
        have HEXT : Hid (L (s.extract i (i + nb + 1 + 1)) = t) := Lib.hid (by
          rw [L_extract, List.drop_take, hdt, List.take_append_of_le_length (by omega), List.take_of_length_le (by omega)])
        have HDR2 : Hid ((L s).drop (i + nb + 1 + 1) = r) := Lib.hid (by
          rw [show i + nb + 1 + 1 = i + (nb + 2) by omega, ← List.drop_drop, hdt, List.drop_append_of_le_length (by omega), List.drop_of_length_le (by omega)]
          rfl)
        clear hF hst hts htl hF2 hdt hr hbody h60 ht hnb HF HDR
        go_wp2_with fail
        go_loop [7] (fun s7 => ∃ kk : Nat, i ≤ kk ∧ kk ≤ i + nb + 1 ∧ s7 = .int .i64 (kk : Int)) (fun s7 => i + nb + 1 - (intOf s7).toNat)
        case atStart => exact ⟨i, Nat.le_refl _, by omega, rfl⟩
        case round =>
          obtain ⟨kk, hk1, hk2, rfl⟩ := hrel
          have hks : kk < s.size := by omega
          by_cases hke : kk < i + nb + 1
          · have q62 : (((s[kk]'hks).toNat : Int) != 62) = true := by
              have h62 : s[kk]'hks ≠ 62 := by
                by_cases h0 : kk = i
                · subst h0
                  have := HG.out 0 60 (by omega) HT0.out
                  simp only [Nat.add_zero] at this
                  rw [this]; decide
                · obtain ⟨c, hc1, hc2⟩ := HTB.out (kk - i) (by omega) (by omega)
                  have := HG.out (kk - i) c (by omega) hc1
                  simp only [show i + (kk - i) = kk by omega] at this
                  rw [this]; exact hc2
              have := ref_ne (n := 62) (by omega) (fun e => h62 e)
              simpa [bne] using this
            go_wp2_with fail
            go_round
            case rel => exact ⟨kk + 1, by omega, by omega, by go_num⟩
            case measure => simp [intOf]; omega
          · have hkk : kk = i + nb + 1 := by omega
            have q62 : (((s[kk]'hks).toNat : Int) != 62) = false := by
              have := HG.out (nb + 1) 62 (by omega) HTE.out
              simp only [show i + (nb + 1) = kk by omega] at this
              rw [this]; rfl
            have HKK := Lib.hid hkk
            obtain ⟨k1, hk1e⟩ : ∃ k1, kk + 1 = k1 := ⟨_, rfl⟩
            have hki : (kk : Int) + 1 = (k1 : Int) := by omega
            have hki2 : i ≤ k1 := by omega
            have hki3 : k1 ≤ s.size := by omega
            have hki4 : k1 = i + nb + 1 + 1 := by omega
            have HEX2 : Hid (L (s.extract i k1) = t) := Lib.hid (by rw [hki4]; exact HEXT.out)
            have hez : (s.extract i k1).size = nb + 2 := by have := congrArg List.length HEX2.out; rw [length_L, HTL.out] at this; exact this
            have HK1 := Lib.hid hki4
            clear hkk hke hk1e hki4
            go_upto_region 12 with fail
            generalize s.extract i k1 = tb at *
            have htb : tb = S t := by rw [← HEX2.out, S_L]
            have HTBE := Lib.hid htb
            clear htb HEXT HEX2
            go_upto_region 13 with (at_builtin; refine wpList_app1 Try.elStrs rfl (.tmp 45) (.tmp 47) rfl rfl (by exact hO1.alloc _) rfl (Blk.new' _ _ _ _ (by simp)) rfl (by simp [Value.oneCell']) (by simp only [maxLen]; omega) (by omega) (by simp; omega) ?_
                                    intro A1' c1' w1 hO1' ho1 hm1)
            have ho1' := ho1.of_alloc
            have hO2' := (hO2.alloc (.cells #[.string tb] 9)).only ho1 hsp.symm
            have hO1n : Own w1 w.heap.size 9 1 A1' (m + 1) c1' (strCells (dn ++ [t])) := by simpa [strCells, HTBE.out] using hO1'
            have hb1 : Below w.heap.size w w1 := hb.trans (ho1'.below (fun a ha => (hO1.lt ha).1) hbs)
            have hsp1 : Sep A1' A2 := hsp.moved hm1 (K := (wr.alloc (.cells #[.string tb] 9)).heap.size) (fun b hb => by have := (hO2.lt hb).2; simp; omega) (Nat.le_refl _)
            have hbs1 := hb1.size
            clear hO1 hO2 hO1' ho1 ho1' hm1 hsp hb hbs
            have HTG : Hid (∀ j c (hj : j < tb.size), t[j]? = some c → tb[j]'hj = c) := Lib.hid fun j c hj h => by
              have h1 : (L tb)[j]? = some c := by rw [HTBE.out, L_S]; exact h
              obtain ⟨h2, h3⟩ := List.getElem?_eq_some_iff.1 h1
              exact h3
            obtain ⟨c1v, hc1v⟩ : ∃ c, t[1]? = some c := ⟨_, List.getElem?_eq_getElem (by rw [HTL.out]; omega)⟩
            obtain ⟨bf, hbf⟩ : ∃ bf : Bool, bf = decide (c1v = 47) := ⟨_, rfl⟩
            have h1s : 1 < tb.size := by omega
            have q47 : (((tb[1]'h1s).toNat : Int) == 47) = bf := by
              rw [HTG.out 1 c1v h1s hc1v, hbf]
              by_cases h : c1v = 47
              · rw [h]; rfl
              · rw [decide_eq_false h]; exact ref_ne (n := 47) (by omega) (fun e => h e)
            have hnb1 : c1v = 47 → 1 ≤ nb := fun h => by
              rcases Nat.eq_zero_or_pos nb with h0 | h0
              · have h1 := HTE.out
                rw [h0, hc1v, h] at h1
                exact absurd h1 (by decide)
              · exact h0
            have HC1 := Lib.hid hc1v
            have HBF := Lib.hid hbf
            clear hc1v hbf
            obtain ⟨f, hf⟩ : ∃ f : Nat, f = if bf then 2 else 1 := ⟨_, rfl⟩
            have hf2 : f ≤ 2 := by rw [hf]; split <;> omega
            have hf1 : 1 ≤ f := by rw [hf]; split <;> omega
            have hfn : f ≤ nb + 1 := by
              rw [hf]
              split
              · rename_i hb1
                have := hnb1 (by have h2 := HBF.out; rw [hb1] at h2; simpa using h2.symm)
                omega
              · omega
            have HEZ := Lib.hid hez
            clear hez hnb1
            have HFE := Lib.hid hf
            clear hf
            go_upto_region 16 with fail
            go_cut [58] (fun s58 wx => s58 = .bool bf ∧ wx = w1)
            case first =>
              go_wp2_with fail
              go_meet
              exact ⟨rfl, rfl⟩
            case rest =>
            obtain ⟨rfl, hwW⟩ := hcut
            rw [hwW]
            clear hwW q47
            apply_assumption
            go_cut [10] (fun s10 wx => s10 = .int .i64 (f : Int) ∧ wx = w1)
            case first =>
              have hfe := HFE.out
              cases hbb : bf
              · rw [hbb] at hfe
                have HH := Lib.hid hfe
                clear hfe hbb
                go_wp2_with fail
                go_meet
                exact ⟨by rw [HH.out]; rfl, rfl⟩
              · rw [hbb] at hfe
                have HH := Lib.hid hfe
                clear hfe hbb
                go_wp2_with fail
                go_meet
                exact ⟨by rw [HH.out]; rfl, rfl⟩
            case rest =>
            obtain ⟨rfl, hwW⟩ := hcut
            rw [hwW]
            clear hwW
            apply_assumption
            go_upto_block 4 with fail
            go_cut [9] (fun s9 wx => ∃ nm : ByteArray, s9 = .string nm ∧ nm.size ≤ nb + 2 ∧ Hid (L nm = fName (t.drop f)) ∧ wx = w1)
            case first =>
              go_wp2_with fail
              go_loop [9, 11] (fun s9 s11 => ∃ (j : Nat) (nm : ByteArray), f ≤ j ∧ j ≤ nb + 1 ∧ s11 = .int .i64 (j : Int) ∧ s9 = .string nm ∧ nm.size ≤ j ∧ Hid (L nm ++ fName (t.drop j) = fName (t.drop f))) (fun _ s11 => nb + 2 - (intOf s11).toNat)
              case atStart => exact ⟨f, ⟨#[]⟩, Nat.le_refl _, by omega, rfl, rfl, Nat.zero_le _, Lib.hid rfl⟩
              case round =>
                obtain ⟨j, nm, hj1, hj2, rfl, rfl, hnm, HNM⟩ := hrel
                have hjl : j < nb + 2 := by omega
                have hjs : j < tb.size := by rw [HEZ.out]; exact hjl
                obtain ⟨c, hc⟩ : ∃ c, t[j]? = some c := ⟨_, List.getElem?_eq_getElem (by rw [HTL.out]; exact hjl)⟩
                have hcb := HTG.out j c hjs hc
                by_cases hgo : c ≠ 32 ∧ c ≠ 62
                · have q32 : (((tb[j]'hjs).toNat : Int) != 32) = true := by rw [hcb]; have := ref_ne (x := c) (n := 32) (by omega) (fun e => hgo.1 e); simpa [bne] using this
                  have q62 : (((tb[j]'hjs).toNat : Int) != 62) = true := by rw [hcb]; have := ref_ne (x := c) (n := 62) (by omega) (fun e => hgo.2 e); simpa [bne] using this
                  have hxl : L (tb.extract j (j + 1)) = [c] := by
                    have h1 : L tb = t := by rw [HTBE.out, L_S]
                    rw [L_extract, List.drop_take, show j + 1 - j = 1 by omega, h1]
                    obtain ⟨hl, he⟩ := List.getElem?_eq_some_iff.1 hc
                    rw [List.drop_eq_getElem_cons hl, he]; simp
                  have hxz : (tb.extract j (j + 1)).size = 1 := by have := congrArg List.length hxl; simpa using this
                  have hz2 : (nm ++ tb.extract j (j + 1)).size ≤ j + 1 := by rw [ByteArray.size_append]; omega
                  have HN2 : Hid (L (nm ++ tb.extract j (j + 1)) ++ fName (t.drop (j + 1)) = fName (t.drop f)) := Lib.hid (by
                    rw [← HNM.out, fName_go hc hgo.1 hgo.2, L_append, hxl]; simp)
                  have p1 : ¬ 9223372036854775807 < nm.size + (tb.extract j (j + 1)).size := by omega
                  have hjn : j ≠ nb + 1 := by
                    intro e
                    have h1 := HTE.out
                    rw [← e, hc] at h1
                    injection h1 with h1
                    exact hgo.2 h1
                  obtain ⟨j1, hj1e⟩ : ∃ j1, j + 1 = j1 := ⟨_, rfl⟩
                  have hki : (j : Int) + 1 = (j1 : Int) := by omega
                  have hk2 : j ≤ j1 := by omega
                  have hk3 : j1 ≤ nb + 1 := by omega
                  have hk4 : f ≤ j1 := by omega
                  have hk5 : j1 ≤ tb.size := by have := HEZ.out; omega
                  rw [hj1e] at HN2 hz2
                  have HJ := Lib.hid hj1e
                  clear hjn hxl hxz hgo hcb hc
                  rw [hj1e] at p1
                  clear hj1e
                  go_wp2_with fail
                  go_round
                  case rel => exact ⟨j1, _, hk4, hk3, rfl, rfl, hz2, HN2⟩
                  case measure => have := HJ.out; simp [intOf]; omega
                · have HN2 : Hid (L nm = fName (t.drop f)) := Lib.hid (by
                    rw [← HNM.out, fName_stop hc (by by_cases h : c = 32; exact .inl h; exact .inr (by by_cases h2 : c = 62; exact h2; exact absurd ⟨h, h2⟩ hgo)), List.append_nil])
                  have hstop : (((tb[j]'hjs).toNat : Int) != 32) = false ∨ ((((tb[j]'hjs).toNat : Int) != 32) = true ∧ (((tb[j]'hjs).toNat : Int) != 62) = false) := by
                    rw [hcb]
                    by_cases h : c = 32
                    · rw [h]; exact .inl rfl
                    · refine .inr ⟨by have := ref_ne (x := c) (n := 32) (by omega) (fun e => h e); simpa [bne] using this, ?_⟩
                      have h2 : c = 62 := by by_cases h2 : c = 62; exact h2; exact absurd ⟨h, h2⟩ hgo
                      rw [h2]; rfl
                  clear hgo hcb hc HNM
                  rcases hstop with q1 | ⟨q1, q2⟩
                  all_goals
                    go_wp2_with fail
                    go_meet
                    exact ⟨nm, rfl, by omega, HN2, rfl⟩
            case rest =>
            obtain ⟨nm, rfl, hnmz, HNM, hwW⟩ := hcut
            rw [hwW]
            clear hwW
            apply_assumption
            have HR1 : Hid (Forest ((L s).drop k1) st' ts') := Lib.hid (by rw [HK1.out, HDR2.out]; exact HF2.out)
            have HR2 : Hid ((dn ++ [t]) ++ ts' = ts) := Lib.hid (by rw [← HTS.out, HTS2.out]; simp)
            have HR3 : Hid ((dn ++ [t]).length = m + 1) := Lib.hid (by rw [List.length_append, HDN.out]; rfl)
            have hm1 : m + 1 ≤ k1 := by have := HK1.out; omega
            have hp1 : p + 1 ≤ k1 := by have := HK1.out; omega
            have hik : i < k1 := by have := HK1.out; omega
            have hst := HST.out
            unfold fStep at hst
            rw [HC1.out, HTL.out] at hst
            simp only [show nb + 2 - 2 = nb by omega, Option.some.injEq] at hst
            clear HDR2 HF2 HTS2 HDN HTS
            cases hbb : bf
            · have hc47 : ¬ c1v = 47 := by have := HBF.out; rw [hbb] at this; simpa using this.symm
              have hfe : f = 1 := by rw [HFE.out, hbb]; rfl
              rw [if_neg hc47] at hst
              obtain ⟨cl, hcl⟩ : ∃ c, t[nb]? = some c := ⟨_, List.getElem?_eq_getElem (by rw [HTL.out]; omega)⟩
              rw [hcl] at hst
              simp only [Option.some.injEq] at hst
              have hns : nb < tb.size := by have := HEZ.out; omega
              have hclb := HTG.out nb cl hns hcl
              have w0 : IntKind.i64.wrap ((tb.size : Int) - 2) = (nb : Int) := by have := HEZ.out; rw [IntWalk.i64_in _ (by omega)]; omega
              clear HFE hf1 hf2 hfn
              subst hfe
              by_cases hc2 : cl = 47
              · rw [if_pos hc2] at hst
                simp only [Option.some.injEq] at hst
                have q2 : (((tb[nb]'hns).toNat : Int) == 47) = true := by rw [hclb, hc2]; rfl
                have HSS := Lib.hid hst
                clear hst hc2 hclb hcl hc47 hbb
                go_wp2_with fail
                go_roundw
                case rel => exact ⟨k1, m + 1, p, A1', A2, c1', c2, dn ++ [t], ts', st, hki3, rfl, rfl, rfl, hm1, by omega, HR3, HSL, by rw [HSS.out]; exact HR1, HR2, hO1n, hO2', hsp1, hb1⟩
                case measure => simp [intOf]; omega
              · rw [if_neg hc2] at hst
                simp only [Option.some.injEq] at hst
                have q2 : (((tb[nb]'hns).toNat : Int) == 47) = false := by rw [hclb]; exact ref_ne (n := 47) (by omega) (fun e => hc2 e)
                have HSS := Lib.hid hst
                clear hst hc2 hclb hcl hc47 hbb
                go_wp2_with (first
                  | (at_builtin; refine wpList_app Try.elStrs rfl (.const (.slice none 0 0)) (.tmp 85) rfl rfl (Own.nil _ w1.heap.size _ _) rfl hO2'.reads (str_one _) (by simp only [maxLen]; omega) (by omega) (Nat.le_refl _) ?_
                     intro A6 c6 w6 hown6 ho6 hm6
                     rw [Nat.zero_add, List.nil_append] at hown6
                     have hz6 := ho6.size)
                  | (at_builtin; refine wpList_app1 Try.elStrs rfl (.tmp 86) (.tmp 88) rfl rfl (by exact hown6.alloc _) rfl (Blk.new' _ _ _ _ (by simp)) rfl (by simp [Value.oneCell']) (by simp only [maxLen]; omega) (by omega) (by simp; omega) ?_
                     intro A7 c7 w7 hown7 ho7 hm7))
                have ho7' := ho7.of_alloc
                have hsep : ∀ C : Option Addr, (∀ a, C = some a → w1.heap.size ≤ a.block) → Sep A1' C := fun C hC a b ha hb => by have := (hO1n.lt ha).2; have := hC b hb; omega
                have o7 := (hO1n.only ho6 Sep.none_r).only ho7' (hsep A6 fun a ha => (hown6.lt ha).1)
                have b6 : Below w1.heap.size w1 w6 := ho6.below (fun a ha => by cases ha) (Nat.le_refl _)
                have b7 : Below w1.heap.size w6 w7 := ho7'.below (fun a ha => (hown6.lt ha).1) hz6
                have bb7 : Below w.heap.size w w7 := hb1.trans ((b6.trans b7).mono hbs1)
                have hnm : nm = S (fName (t.drop 1)) := by rw [← HNM.out, S_L]
                have HNE := Lib.hid hnm
                clear hnm
                go_roundw
                case rel =>
                  refine ⟨k1, m + 1, p + 1, A1', A7, c1', c7, dn ++ [t], ts', fName (t.drop 1) :: st, hki3, rfl, rfl, rfl, hm1, hp1, HR3, Lib.hid (by rw [List.length_cons, HSL.out]), by rw [HSS.out]; exact HR1, HR2, o7, ?_, hsep A7 (fun a ha => (hown7.lt ha).1), bb7⟩
                  have h7 := hown7.base_le hbs1
                  have e : strCells (fName (t.drop 1) :: st).reverse = strCells st.reverse ++ [Value.string nm] := by rw [HNE.out]; simp [strCells]
                  rw [e]
                  exact h7
                case measure => simp [intOf]; omega
            · have hc47 : c1v = 47 := by have := HBF.out; rw [hbb] at this; simpa using this.symm
              have hfe : f = 2 := by rw [HFE.out, hbb]; rfl
              rw [if_pos hc47] at hst
              clear HFE hf1 hf2 hfn
              subst hfe
              rcases st with _ | ⟨x, st0⟩
              · cases hst
              · simp only at hst
                by_cases hxn : x = fName (t.drop 2)
                · rw [if_pos hxn] at hst
                  simp only [Option.some.injEq] at hst
                  obtain ⟨p0, hp0⟩ : ∃ p0, p = p0 + 1 := ⟨st0.length, by have := HSL.out; simpa using this.symm⟩
                  have hl0 : st0.length = p0 := by have := HSL.out; rw [List.length_cons] at this; omega
                  subst hp0
                  obtain ⟨g2, rfl, _, _⟩ := hO2'.some_ (by omega)
                  have hnm : nm = S x := by rw [hxn, ← HNM.out, S_L]
                  have hy : w1.cell? ⟨g2, p0, none⟩ = some (.string (S x)) := hO2'.cell (by rw [← hl0]; simp [strCells])
                  have hcap : p0 + 1 ≤ c2 := hO2'.cap
                  have hq0 : (((p0 : Int) + 1) == 0) = false := beq_eq_false_iff_ne.2 (by omega)
                  have hO2t := hO2'.take (m := p0) (by omega)
                  have HO2t : Hid (Own w1 w.heap.size 9 1 (some ⟨g2, 0, none⟩) p0 c2 (strCells st0.reverse)) := Lib.hid (by
                    have e : (strCells (x :: st0).reverse).take (p0 * 1) = strCells st0.reverse := by
                      rw [Nat.mul_one, List.reverse_cons, ← hl0]
                      simp [strCells]
                    rw [e] at hO2t
                    exact hO2t)
                  have HSS := Lib.hid hst
                  have HL0 := Lib.hid hl0
                  clear hst hc47 hbb hl0 HNM hxn hO2t hO2'
                  subst hnm
                  go_wp2_with fail
                  go_roundw
                  case rel => exact ⟨k1, m + 1, p0, A1', _, c1', c2, dn ++ [t], ts', st0, hki3, rfl, rfl, rfl, hm1, by omega, HR3, HL0, by rw [HSS.out]; exact HR1, HR2, hO1n, HO2t.out, hsp1, hb1⟩
                  case measure => simp [intOf]; omega
                · rw [if_neg hxn] at hst; cases hst
    · have his : i = s.size := by omega
      have hF := HF.out
      rw [List.drop_of_length_le (by rw [length_L]; omega)] at hF
      obtain ⟨h1, h2⟩ := hF.inv_nil
      subst h1
      subst h2
      have hp0 : p = 0 := by have := HSL.out; simpa using this.symm
      subst hp0
      have hdt : dn = ts := by have := HTS.out; simpa using this
      subst hdt
      have hml : dn.length = m := HDN.out
      have HML := Lib.hid hml
      clear hml hF HF HSL HTS HDN
      go_wp2_with fail
      go_ret2
      exact ⟨A1, c1, by rw [HML.out]; rfl, by rw [HML.out]; exact hO1, hb⟩
end Go.Proofs.Ytfdfpimilmhhoaa
