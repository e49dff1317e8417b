/-
  bowdlerlaw20.ContentsForest: its walk: it answers true, and turns nothing that was there.
-/
import Derived.Test.YtfdfpimilmhhoaaAlive
import Derived.Test.YtfdfpimilmhhoaaRefForest
import Derived.Test.YtfdfpimilmhhoaaSecLent
namespace Go.Proofs.Ytfdfpimilmhhoaa
open Go.RowKit
set_option linter.unusedVariables false

theorem small_go {l : List Sec} {k : Nat} {x : Sec} {P : Sec → Prop} (h : ∀ y ∈ l.take k, P y) (hx : l[k]? = some x) (h1 : P x) : ∀ y ∈ l.take (k + 1), P y := by
  intro y hy
  rw [List.take_add_one, hx] at hy
  simp only [Option.toList_some, List.mem_append, List.mem_singleton] at hy
  rcases hy with hy | rfl
  · exact h y hy
  · exact h1
theorem navItem_le (numbers : Bool) (l : List Sec) (deep : List Nat) (i : Nat) (hsz : ∀ x ∈ l, x.number.size + x.anchor.size + x.text.size ≤ 1048576) (hd : deep.getD i 0 ≤ 100) : (navItem numbers l deep i).length ≤ 6300000 := by
  unfold navItem
  rcases hx : l[i]? with _ | x
  · simp
  · have h1 := entryT_le x numbers
    have h2 := hsz x (List.mem_of_getElem? hx)
    simp only [List.length_append]
    generalize deep.getD i 0 = p0 at *
    generalize deep.getD (i + 1) 0 = p1 at *
    split
    · simp; omega
    · have h3 : ((List.replicate (p0 - p1) navEnd).flatten).length = (p0 - p1) * 12 := by simp [navEnd]
      simp only [List.length_append, h3]
      simp
      omega
theorem htmlT_le (l : List Sec) (numbers : Bool) (hl : l.length ≤ 40) (hsz : ∀ x ∈ l, x.number.size + x.anchor.size + x.text.size ≤ 1048576) : (htmlT l numbers).length ≤ 300000000 := by
  unfold htmlT
  split
  · simp
  · have key : ∀ k, k ≤ 40 → (navTo numbers l (dpDepths [] (l.map Sec.level) ++ [0]) k).length ≤ 11 + k * 6300000 := by
      intro k
      induction k with
      | zero => intro _; simp [navTo]
      | succ k ih =>
        intro hk
        rw [navTo_succ, List.length_append]
        have h1 := ih (by omega)
        have h2 := navItem_le numbers l (dpDepths [] (l.map Sec.level) ++ [0]) k hsz (by have := dp_le (zs := l.map Sec.level) rfl k; rw [List.length_map] at this; omega)
        omega
    have h1 := key l.length hl
    rw [List.length_append]
    simp
    omega

theorem lit3 : (⟨#[60, 97, 32]⟩ : ByteArray).toList = [60, 97, 32] := by rw [ByteArray.toList_eq]

set_option maxHeartbeats 8000000 in
set_option maxRecDepth 100000 in
theorem contentsForest_walk (B : Option Addr) (m d : Nat) (l : List Sec) (depth : Int) (numbers : Bool) (w : World)
    (hw : Reads w w.heap.size 4 B m (secCells l) ∧ ∀ x ∈ l, x.number.size + x.anchor.size + x.text.size ≤ 1048576) (_ : (Lit.int .i64 depth).wf = true) :
    Calls Try.prog 4 #[.slice B m d, .int .i64 depth, .bool numbers] w fun e w' => e = .returned (.bool true) ∧ Below w.heap.size w w' := by
  obtain ⟨hs, hR⟩ := hw
  have hsl : l.length = m := by have := hs.1; rw [secCells_length] at this; omega
  by_cases hin : m ≤ 40
  · have HSL := Lib.hid hsl
    have HR := Lib.hid hR
    clear hsl hR
    go_enter Try.func4, Try.ntmps4
    go_wp2_with fail
    refine (alive_any _).mono ?_
    rintro e w1 ⟨rfl, b1⟩
    go_wp2_with fail
    go_loopw [7, 27] (fun s7 i wr => ∃ k q v : Nat, k ≤ m ∧ v ≤ k ∧ i = .int .i64 k ∧ s7 = .int .i64 (v : Int) ∧ Hid ((keepTo depth (l.take k)).length = v) ∧ Hid (∀ x ∈ l.take k, ∀ b ∈ L x.anchor, b ≠ 62) ∧ wr = w1.drewN q) (fun _ i _ => m - (intOf i).toNat)
    case atStart => exact ⟨0, 0, 0, Nat.zero_le _, Nat.le_refl _, rfl, rfl, Lib.hid rfl, Lib.hid (by simp), rfl⟩
    case round =>
      obtain ⟨k, q, v, hk, hv, rfl, rfl, HV, HAN, rfl⟩ := hrel
      by_cases hlt : k < m
      · obtain ⟨x, hx⟩ : ∃ x, l[k]? = some x := ⟨_, List.getElem?_eq_getElem (by rw [HSL.out]; omega)⟩
        have R1 := HR.out x (List.mem_of_getElem? hx)
        obtain ⟨ad, rfl, hab, _, g0, g1, g2, g3⟩ := (hs.below b1).sec hx
        have HX := Lib.hid hx
        clear hx
        have q1 : IntKind.i64.wrap ((x.text.size : Int) + (x.number.size : Int)) = (x.text.size : Int) + (x.number.size : Int) := IntWalk.i64_in _ (by omega)
        go_wp2_with fail
        go_quiet (fail)
        clear q1
        by_cases h100 : 100 < x.text.size + x.number.size
        · go_wp2_with fail
          go_ret
          exact ⟨rfl, below_drewN' (below_drewN' b1 _) _⟩
        · have g0' : ((w1.drewN q).drewN nq).cell? (ad.add (k * 4)) = some (.int .i64 x.level) := g0
          have g2' : ((w1.drewN q).drewN nq).cell? ⟨(ad.add (k * 4)).block, (ad.add (k * 4)).off + 2, none⟩ = some (.string x.anchor) := g2
          go_wp2_with fail
          go_loop [9] (fun s9 => ∃ e : Nat, e ≤ x.anchor.size ∧ s9 = .int .i64 (e : Int) ∧ Hid (∀ b ∈ (L x.anchor).take e, b ≠ 62)) (fun s9 => x.anchor.size - (intOf s9).toNat)
          case atStart => exact ⟨0, Nat.zero_le _, rfl, Lib.hid (by simp)⟩
          case round =>
            obtain ⟨e, he, rfl, HE⟩ := hrel
            by_cases hel : e < x.anchor.size
            · obtain ⟨b, hb0⟩ : ∃ b, x.anchor[e]'hel = b := ⟨_, rfl⟩
              have HB := Lib.hid hb0
              clear hb0
              by_cases hlow : b.toNat < 97
              · have p1 : (x.anchor[e]'hel).toNat < 97 := by rw [HB.out]; exact hlow
                go_wp2_with fail
                go_ret
                exact ⟨rfl, below_drewN' b1 _⟩
              · have p1 : ¬ (x.anchor[e]'hel).toNat < 97 := by rw [HB.out]; exact hlow
                by_cases hhigh : 122 < b.toNat
                · have p2 : 122 < (x.anchor[e]'hel).toNat := by rw [HB.out]; exact hhigh
                  go_wp2_with fail
                  go_ret
                  exact ⟨rfl, below_drewN' b1 _⟩
                · have p2 : ¬ 122 < (x.anchor[e]'hel).toNat := by rw [HB.out]; exact hhigh
                  have HE2 : Hid (∀ b ∈ (L x.anchor).take (e + 1), b ≠ 62) := Lib.hid (by
                    intro c hc
                    rw [List.take_add_one, List.getElem?_eq_getElem (by rw [length_L]; exact hel)] at hc
                    simp only [Option.toList_some, List.mem_append, List.mem_singleton] at hc
                    rcases hc with hc | rfl
                    · exact HE.out c hc
                    · intro e62
                      have h1 : (L x.anchor)[e]'(by rw [length_L]; exact hel) = b := HB.out
                      rw [h1] at e62
                      rw [e62] at hlow
                      exact hlow (by decide))
                  clear hlow hhigh
                  go_wp2_with fail
                  go_round
                  case rel => exact ⟨e + 1, by omega, by go_num, HE2⟩
                  case measure => simp [intOf]; omega
            · have HE2 : Hid (∀ b ∈ L x.anchor, b ≠ 62) := Lib.hid (by
                have h1 := HE.out
                rw [List.take_of_length_le (by rw [length_L]; omega)] at h1
                exact h1)
              have HAN2 := Lib.hid (small_go HAN.out HX.out HE2.out)
              by_cases hle : x.level ≤ depth
              · have HK : Hid ((keepTo depth (l.take (k + 1))).length = v + 1) := Lib.hid (by rw [keepTo_yes HX.out hle, List.length_append, HV.out]; rfl)
                go_wp2_with fail
                go_roundw
                case rel => exact ⟨k + 1, q + nq, v + 1, by omega, by omega, by go_num, by first | rfl | go_num, HK, HAN2, by first | rfl | exact World.drewN_drewN _ _ _⟩
                case measure => simp [intOf]; omega
              · have HK : Hid ((keepTo depth (l.take (k + 1))).length = v) := Lib.hid (by rw [keepTo_no HX.out hle]; exact HV.out)
                go_wp2_with fail
                go_roundw
                case rel => exact ⟨k + 1, q + nq, v, by omega, by omega, by go_num, rfl, HK, HAN2, by first | rfl | exact World.drewN_drewN _ _ _⟩
                case measure => simp [intOf]; omega
      · have hkm : k = m := by omega
        subst hkm
        have hz : l.take k = l := by rw [List.take_of_length_le (by rw [HSL.out]; omega)]
        rw [hz] at HV HAN
        have HAK : Hid (∀ x ∈ keepTo depth l, ∀ b ∈ L x.anchor, b ≠ 62) := Lib.hid fun x hx => HAN.out x (List.mem_filter.1 hx).1
        have HSZ : Hid (∀ x ∈ keepTo depth l, x.number.size + x.anchor.size + x.text.size ≤ 1048576) := Lib.hid fun x hx => HR.out x (List.mem_filter.1 hx).1
        have bw := below_drewN' b1 q
        generalize w1.drewN q = w2 at *
        have z2 := bw.size
        clear b1 HAN hz
        go_wp2_with fail
        refine (html_any B k d l depth numbers w2 ((hs.below bw).more z2) (by omega) HR.out).mono ?_
        rintro e w3 ⟨rfl, b3⟩
        have bb3 := bw.trans (b3.mono z2)
        have z3 := bb3.size
        have hkl : (keepTo depth l).length ≤ 40 := by rw [HV.out]; omega
        have HLE := Lib.hid (htmlT_le (keepTo depth l) numbers hkl HSZ.out)
        generalize keepTo depth l = kl at *
        clear b3 bw hkl
        by_cases h0 : v = 0
        · have hkl0 : kl = [] := List.eq_nil_of_length_eq_zero (by rw [HV.out]; exact h0)
          subst hkl0
          have he : S (htmlT [] numbers) = ⟨#[]⟩ := rfl
          rw [he]
          subst h0
          go_wp2_with fail
          refine (refForest_any ⟨#[]⟩ [] w3 Forest.done (by decide)).mono ?_
          rintro e w4 ⟨A4, c4, rfl, hO4, b4⟩
          go_wp2_with fail
          go_ret
          exact ⟨rfl, bb3.trans (b4.mono z3)⟩
        · have hne : kl ≠ [] := fun h => h0 (by rw [← HV.out, h]; rfl)
          obtain ⟨ts, hF, hL, hE⟩ := forest_html kl numbers hne HAK.out
          have hF' : Forest (L (S (htmlT kl numbers))) [] (tNav :: ts) := hF
          have hzs : (S (htmlT kl numbers)).size ≤ 1073741824 := by rw [size_S]; have := HLE.out; omega
          go_wp2_with fail
          refine (refForest_any (S (htmlT kl numbers)) (tNav :: ts) w3 hF' hzs).mono ?_
          rintro e w4 ⟨A4, c4, rfl, hO4, b4⟩
          have bb4 := bb3.trans (b4.mono z3)
          have hT0 : (tNav :: ts)[0]? = some tNav := rfl
          obtain ⟨n5, hn5⟩ : ∃ n5, (tNav :: ts).length = n5 + 1 := ⟨ts.length, rfl⟩
          have hTL : (tNav :: ts)[n5]? = some eNav := by
            rw [← hE, List.getLast?_eq_getElem?, hn5]; rfl
          generalize tNav :: ts = tt at *
          rw [hn5] at hO4 ⊢
          obtain ⟨g4, rfl, _, _⟩ := hO4.some_ (by omega)
          have k0 : w4.cell? ⟨g4, 0, none⟩ = some (.string ⟨#[60, 110, 97, 118, 62]⟩) := hO4.cell (j := 0) (by rw [List.getElem?_map, hT0]; rfl)
          have k1 : w4.cell? ⟨g4, n5, none⟩ = some (.string ⟨#[60, 47, 110, 97, 118, 62]⟩) := hO4.cell (j := n5) (by rw [List.getElem?_map, hTL]; rfl)
          have HL := Lib.hid (hL.trans HV.out)
          have HN5 := Lib.hid hn5
          have HO4 := Lib.hid hO4
          have hv0 : ((v : Int) == 0) = false := beq_eq_false_iff_ne.2 (by omega)
          have hn5m : n5 ≤ 1073741824 := by
            have h1 := hO4.len
            have h2 : ∀ {r : List UInt8} {st us : List (List UInt8)}, Forest r st us → us.length ≤ r.length := fun h => by
              induction h with
              | done => simp
              | text _ _ ih => simp; omega
              | sign _ _ _ ih => simp; omega
            have h3 := h2 hF
            have := HLE.out
            omega
          clear hF hF' hE hn5 hT0 hTL hO4 hL b4 hzs
          go_upto_region 24 with fail
          go_loop [14, 92] (fun s14 s92 => ∃ (j v2 : Nat), j ≤ n5 + 1 ∧ v2 ≤ j ∧ s92 = .int .i64 (j : Int) ∧ s14 = .int .i64 (v2 : Int) ∧ Hid (linksN (tt.take j) = v2)) (fun _ s92 => n5 + 1 - (intOf s92).toNat)
          case atStart => exact ⟨0, 0, Nat.zero_le _, Nat.le_refl _, rfl, rfl, Lib.hid rfl⟩
          case round =>
            obtain ⟨j, v2, hj, hv2, rfl, rfl, HLN⟩ := hrel
            by_cases hjl : j < n5 + 1
            · obtain ⟨t, ht⟩ : ∃ t, tt[j]? = some t := ⟨_, List.getElem?_eq_getElem (by rw [HN5.out]; exact hjl)⟩
              have k2 : w4.cell? ⟨g4, j, none⟩ = some (.string (S t)) := HO4.out.cell (j := j) (by rw [List.getElem?_map, ht]; rfl)
              have HNX : Hid (linksN (tt.take (j + 1)) = v2 + if isA t then 1 else 0) := Lib.hid (by
                rw [List.take_add_one, ht, ← HLN.out]
                unfold linksN
                rw [Option.toList_some, List.filter_append, List.length_append]
                congr 1
                rw [List.filter_cons]
                split <;> simp)
              have hIS : isA t = (decide (2 < (S t).size) && ((S t).extract 0 3 == ⟨#[60, 97, 32]⟩)) := by
                unfold isA
                rw [size_S]
                congr 1
                rw [beq_toListBytes, lit3, ByteArray.toList_eq]
                show _ = (L ((S t).extract 0 3) == [60, 97, 32])
                rw [L_extract, L_S, List.drop_zero]
              generalize S t = tb at *
              clear ht
              by_cases h2 : 2 < tb.size
              · have h3 : 3 ≤ tb.size := h2
                cases hq : (tb.extract 0 3 == (⟨#[60, 97, 32]⟩ : ByteArray))
                · have hqq : ((tb.extract 0 3).toList == [60, 97, 32]) = false := by rw [← hq, beq_toListBytes, lit3]
                  have hf : isA t = false := by rw [hIS, hq, Bool.and_false]
                  have HN2 : Hid (linksN (tt.take (j + 1)) = v2) := Lib.hid (by rw [HNX.out, hf]; rfl)
                  clear hIS hf
                  go_wp2_with fail
                  go_round
                  case rel => exact ⟨j + 1, v2, by omega, by omega, by go_num, rfl, HN2⟩
                  case measure => simp [intOf]; omega
                · have hqq : ((tb.extract 0 3).toList == [60, 97, 32]) = true := by rw [← hq, beq_toListBytes, lit3]
                  have hf : isA t = true := by rw [hIS, hq, decide_eq_true h2]; rfl
                  have HN2 : Hid (linksN (tt.take (j + 1)) = v2 + 1) := Lib.hid (by rw [HNX.out, hf]; rfl)
                  clear hIS hf
                  go_wp2_with fail
                  go_round
                  case rel => exact ⟨j + 1, v2 + 1, by omega, by omega, by go_num, by go_num, HN2⟩
                  case measure => simp [intOf]; omega
              · have hf : isA t = false := by rw [hIS, decide_eq_false h2]; rfl
                have HN2 : Hid (linksN (tt.take (j + 1)) = v2) := Lib.hid (by rw [HNX.out, hf]; rfl)
                clear hIS hf
                go_wp2_with fail
                go_round
                case rel => exact ⟨j + 1, v2, by omega, by omega, by go_num, rfl, HN2⟩
                case measure => simp [intOf]; omega
            · have hjn : j = n5 + 1 := by omega
              have hvv : v2 = v := by
                rw [← HLN.out, ← HL.out, List.take_of_length_le (by rw [HN5.out]; omega)]
              subst hjn
              subst hvv
              go_wp2_with fail
              go_ret
              exact ⟨rfl, bb4⟩
  · go_enter Try.func4, Try.ntmps4
    go_wp2_with fail
    refine (alive_any _).mono ?_
    rintro e w1 ⟨rfl, b1⟩
    go_wp2_with fail
    go_ret
    exact ⟨rfl, b1⟩
end Go.Proofs.Ytfdfpimilmhhoaa
