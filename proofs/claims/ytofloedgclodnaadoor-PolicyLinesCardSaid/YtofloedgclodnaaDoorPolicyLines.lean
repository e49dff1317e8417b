/-
  bowdlerlaw4.PolicyLines: its walk: it answers true, and turns nothing that was there.
-/
import Derived.Test.YtofloedgclodnaaDoorPolAlive
import Derived.Test.YtofloedgclodnaaDoorPolLines
import Derived.Test.YtofloedgclodnaaDoorOpenTexts
import Derived.Test.YtofloedgclodnaaDoorOpenPairs
import Derived.Deep.DeepCutAuto
import Derived.Deep.RegionHeld3
namespace Go.Proofs.YtofloedgclodnaaDoor
open Go.RowKit

theorem write_size {xs : List ByteArray} {ps : List (Int × Int)} (h : rightT xs ps = true) : (writeT xs ps).size ≤ 44 * (xs.length + ps.length) := by
  obtain ⟨r1, r2, r3, r4, r5⟩ := right_parts h
  have := joinT_bound ((wlines xs ps).map L) 43 (fun y hy => by
    obtain ⟨z, hz, rfl⟩ := List.mem_map.1 hy
    rw [length_L]
    rcases List.mem_append.1 hz with hz | hz
    · obtain ⟨x, hx, rfl⟩ := List.mem_map.1 hz
      have := name_le (r3 x hx)
      unfold wlineA
      rw [ByteArray.size_append]
      have : (⟨#[108, 101, 118, 101, 108, 32]⟩ : ByteArray).size = 6 := rfl
      omega
    · obtain ⟨p, hp, rfl⟩ := List.mem_map.1 hz
      have h1 := getD_size r3 p.1.toNat
      have h2 := getD_size r3 p.2.toNat
      unfold wlineB
      rw [ByteArray.size_append, ByteArray.size_append]
      have : (⟨#[32, 60, 32]⟩ : ByteArray).size = 3 := rfl
      omega)
  have hl : (wlines xs ps).length = xs.length + ps.length := by simp [wlines]
  rw [List.length_map, hl] at this
  unfold writeT
  rw [if_pos h]
  simpa [S] using this

theorem tmodBd (j : Int) (k : Nat) : -(k : Int) ≤ j.tmod (k + 1) ∧ j.tmod (k + 1) ≤ k := by
  have h1 := Int.tmod_lt_of_pos j (b := (k : Int) + 1) (by omega)
  have h2 := Int.tmod_lt_of_pos (-j) (b := (k : Int) + 1) (by omega)
  rw [Int.neg_tmod] at h2
  omega
theorem tmodIn (j : Int) (k : Nat) : ∃ m : Nat, m ≤ k ∧ (j.tmod (k + 1) + k + 1).tmod (k + 1) = (m : Int) := by
  have h := tmodBd j k
  have h1 := Int.tmod_lt_of_pos (j.tmod (k + 1) + k + 1) (b := (k : Int) + 1) (by omega)
  have h2 := Int.tmod_nonneg (a := j.tmod (k + 1) + k + 1) ((k : Int) + 1) (by omega)
  exact ⟨((j.tmod (k + 1) + k + 1).tmod (k + 1)).toNat, by omega, by omega⟩
theorem take_two (x : ByteArray) {j : Nat} (h : j < x.size) (h1 : ¬ x[j]'h = 10) (h2 : ¬ x[j]'h = 13) (ih : ∀ b ∈ (L x).take j, b ≠ 10 ∧ b ≠ 13) : ∀ b ∈ (L x).take (j + 1), b ≠ 10 ∧ b ≠ 13 := by
  intro b hb
  have hl : j < (L x).length := by simpa using h
  rw [List.take_add_one, List.getElem?_eq_getElem hl, Option.toList_some, List.mem_append, List.mem_singleton] at hb
  rcases hb with hb | rfl
  · exact ih b hb
  · exact ⟨h1, h2⟩

set_option maxHeartbeats 4000000 in
set_option maxRecDepth 100000 in
theorem policyLines_walk (A : Option Addr) (n cap : Nat) (xs : List ByteArray) (B : Option Addr) (m cap2 : Nat) (ps : List (Int × Int)) (att : Int) (more : ByteArray) (w : World) (hg : Glb w)
    (hx : IsTexts w A n cap xs) (hp : IsPairs w B m cap2 ps) (_ : (Lit.int .i64 att).wf = true) (_ : more.size ≤ 140737488351232) :
    Calls Tryd.prog 3 #[.slice A n cap, .slice B m cap2, .int .i64 att, .string more] w fun e w' => e = .returned (.bool true) ∧ Below w.heap.size w w' := by
  obtain ⟨hr, hnc, hcm, hsz⟩ := hx
  obtain ⟨hr2, hmc, hcm2⟩ := hp
  have hlen : xs.length = n := by have := hr.1; simpa using this
  have hlen2 : ps.length = m := by have := hr2.1; rw [prCells_length] at this; omega
  have HL := Lib.hid hlen
  have HL2 := Lib.hid hlen2
  have HSZ := Lib.hid hsz
  clear hlen hlen2 hsz
  have hmax : maxLen = 9223372036854775807 := rfl
  have bA : Below w.heap.size w (w.alloc (.cells #[.slice A n cap, .slice B m cap2] 25)) := (Below.refl _ _).alloc (Nat.le_refl _) _
  have hgA := hg.below bA
  by_cases h1 : 20 < n
  · go_enter Tryd.func3, Tryd.ntmps3
    go_wp2_with (go_at_call 16; refine (alive4_any _ hgA).mono ?_; rintro e w1 ⟨rfl, b1⟩)
    go_ret
    exact ⟨rfl, bA.trans (b1.mono (by simp))⟩
  by_cases h2 : 30 < m
  · go_enter Tryd.func3, Tryd.ntmps3
    go_wp2_with (go_at_call 16; refine (alive4_any _ hgA).mono ?_; rintro e w1 ⟨rfl, b1⟩)
    go_ret
    exact ⟨rfl, bA.trans (b1.mono (by simp))⟩
  by_cases h3 : 40 < more.size
  · go_enter Tryd.func3, Tryd.ntmps3
    go_wp2_with (go_at_call 16; refine (alive4_any _ hgA).mono ?_; rintro e w1 ⟨rfl, b1⟩)
    go_ret
    exact ⟨rfl, bA.trans (b1.mono (by simp))⟩
  have hsA : (w.alloc (.cells #[.slice A n cap, .slice B m cap2] 25)).heap.size = w.heap.size + 1 := by simp
  have B0 : Blk (w.alloc (.cells #[.slice A n cap, .slice B m cap2] 25)) w.heap.size 25 #[.slice A n cap, .slice B m cap2] := Blk.new _ _ _
  have HR := Lib.hid (right_any A B n cap m cap2 w.heap.size xs ps _ (hr.below bA) (hr2.below bA) (by rw [hsA]; omega) (by omega) (by omega) (fun x hx => by have := HSZ.out x hx; omega))
  have hsA' : w.heap.size < (w.alloc (.cells #[.slice A n cap, .slice B m cap2] 25)).heap.size := by rw [hsA]; omega
  clear hsA
  cases hrt : rightT xs ps
  · rw [hrt] at HR
    go_enter Tryd.func3, Tryd.ntmps3
    go_wp2_with (first
      | (go_at_call 15; refine HR.out.mono ?_; rintro e w1 ⟨rfl, b1⟩; have bb1 := bA.trans (b1.mono (Nat.le_of_lt hsA')); have hg1 := hg.below bb1)
      | (go_at_call 16; refine (alive4_any _ hg1).mono ?_; rintro e w2 ⟨rfl, b2⟩))
    go_ret
    exact ⟨rfl, bb1.trans (b2.mono bb1.size)⟩
  · rw [hrt] at HR
    have HLAW := Lib.hid (lines_law hrt more)
    have hws := write_size hrt
    rw [HL.out, HL2.out] at hws
    have HW : Hid (∀ w1, Below w.heap.size w w1 → Calls Tryd.prog 17 #[.agg #[.slice A n cap, .slice B m cap2]] w1 fun e w' => e = .returned (.tuple #[.string (writeT xs ps), .bool true]) ∧ Below w1.heap.size w1 w') := Lib.hid (fun w1 hb => by
      have := write_any A B n cap m cap2 w.heap.size xs ps w1 (hr.below hb) (hr2.below hb) hb.size (by omega) (by omega) (fun x hx => by have := HSZ.out x hx; omega)
      rw [hrt] at this
      exact this)
    generalize writeT xs ps = s at *
    go_enter Tryd.func3, Tryd.ntmps3
    go_wp2_with (first
      | (go_at_call 15; refine HR.out.mono ?_; rintro e w1 ⟨rfl, b1⟩; have bb1 := bA.trans (b1.mono (Nat.le_of_lt hsA')); have hg1 := hg.below bb1)
      | (go_at_call 16; refine (alive4_any _ hg1).mono ?_; rintro e w2 ⟨rfl, b2⟩))
    have bb2 := bb1.trans (b2.mono bb1.size)
    have B2 := (B0.below b1 hsA').below b2 (by have := b1.size; omega)
    have hs2 : w.heap.size < w2.heap.size := B2.lt
    clear HR B0 b1 b2 bA hgA hsA' bb1 hg1
    go_loop [10] (fun s10 => ∃ j : Nat, j ≤ more.size ∧ s10 = .int .i64 j ∧ ∀ b ∈ (L more).take j, b ≠ 10 ∧ b ≠ 13) (fun s10 => more.size - (intOf s10).toNat)
    case atStart => exact ⟨0, Nat.zero_le _, rfl, by simp⟩
    case round =>
      obtain ⟨j, hj, rfl, hno⟩ := hrel
      have HNO := Lib.hid hno
      clear hno
      by_cases hjl : j < more.size
      · by_cases hb : more[j]'hjl = 10
        · go_wp2_with fail
          go_ret
          exact ⟨rfl, bb2⟩
        · by_cases hb3 : more[j]'hjl = 13
          · have q3 : ((more[j].toNat : Int) == 13) = true := by rw [hb3]; rfl
            have q : ((more[j].toNat : Int) == 10) = false := byte_ne (n := 10) (by decide) hb
            clear hb3 hb
            go_wp2_with fail
            go_ret
            exact ⟨rfl, bb2⟩
          · have HT := Lib.hid (take_two more hjl hb hb3 HNO.out)
            have q : ((more[j].toNat : Int) == 10) = false := byte_ne (n := 10) (by decide) hb
            have q3 : ((more[j].toNat : Int) == 13) = false := byte_ne (n := 13) (by decide) hb3
            clear hb hb3
            go_wp2_with fail
            go_round
            case rel => exact ⟨j + 1, by omega, by go_num, HT.out⟩
            case measure => simp [intOf]; omega
      · have hall : ∀ b ∈ L more, b ≠ 10 ∧ b ≠ 13 := by
          have := HNO.out
          rwa [List.take_of_length_le (by simp; omega)] at this
        have HP := Lib.hid (HLAW.out hall)
        clear HNO HLAW hall
        have c0 : w2.cell? ⟨w.heap.size, 0, none⟩ = some (.slice A n cap) := B2.cell 0
        have c1 : w2.cell? ⟨w.heap.size, 0 + 1, none⟩ = some (.slice B m cap2) := B2.cell 1
        obtain ⟨kk, hkk, hmod⟩ := tmodIn att s.size
        obtain ⟨d1, d2⟩ := tmodBd att s.size
        go_wp2_with (go_at_call 17; refine (HW.out _ bb2).mono ?_; rintro e w3 ⟨rfl, b3⟩)
        have bb3 := bb2.trans (b3.mono (Nat.le_of_lt hs2))
        have hg3 := hg.below bb3
        have hs3 := bb3.size
        clear c0 c1 B2 b3 HW
        clear hmod d1 d2
        go_loop [13] (fun s13 => ∃ k : Nat, k ≤ s.size ∧ s13 = .int .i64 k) (fun s13 => (intOf s13).toNat)
        case atStart => exact ⟨kk, hkk, rfl⟩
        case round =>
          clear hkk
          obtain ⟨k, hk, rfl⟩ := hrel
          by_cases hex : k = 0 ∨ (L s)[k - 1]? = some 10
          · have HT := Lib.hid (HP.out k hk hex)
            have hcase : k = 0 ∨ ∃ (p : Nat) (h : p < s.size), k = p + 1 ∧ s[p]'h = 10 := by
              rcases hex with h | h
              · exact .inl h
              · by_cases h0 : k = 0
                · exact .inl h0
                · have hlt : k - 1 < s.size := by omega
                  refine .inr ⟨k - 1, hlt, by omega, ?_⟩
                  rw [List.getElem?_eq_getElem (by simpa using hlt)] at h
                  injection h
            clear hex HP
            have HQ : Hid (∀ w4, Below w.heap.size w w4 → Calls Tryd.prog 18 #[.string (s.extract 0 k ++ ⟨#[35]⟩ ++ more ++ ⟨#[10, 10, 32, 9, 10]⟩ ++ s.extract k s.size)] w4 fun e w' => Below w4.heap.size w4 w' ∧
                ∃ A' n' c' B' m' d', e = .returned (.tuple #[.agg #[.slice A' n' c', .slice B' m' d'], .int .i64 0]) ∧ Own w' w4.heap.size 9 1 A' n' c' (txCells xs) ∧ Own w' w4.heap.size 63 2 B' m' d' (prCells ps)) := Lib.hid (fun w4 hb4 =>
              (parse_any _ w4 (hg.below hb4) (by rw [ByteArray.size_append, ByteArray.size_append, ByteArray.size_append, ByteArray.size_append, ByteArray.size_extract, ByteArray.size_extract]; simp only [size_lit, List.size_toArray, List.length_cons, List.length_nil]; omega)).mono (fun e w' h => ⟨h.1, h.2.2 _ HT.out⟩))
            clear HT
            have z1 : (s.extract 0 k).size = k := by rw [ByteArray.size_extract]; omega
            have z2 : (s.extract k s.size).size = s.size - k := by rw [ByteArray.size_extract]; omega
            have y1 : ¬ 9223372036854775807 < k + 1 := by omega
            have y2 : ¬ 9223372036854775807 < k + 1 + more.size := by omega
            have y3 : ¬ 9223372036854775807 < k + 1 + more.size + 5 := by omega
            have y4 : ¬ 9223372036854775807 < k + 1 + more.size + 5 + (s.size - k) := by omega
            rcases hcase with h0 | ⟨p, hpl, hkp, hb⟩
            case' inl =>
              have e0 : decide ((0 : Int) < (k : Int)) = false := decide_eq_false (by omega)
              have e1 : decide (0 < k) = false := decide_eq_false (by omega)
              have e2 : ¬ 0 < k := by omega
              clear h0
            case' inr =>
              have e0 : decide ((0 : Int) < (k : Int)) = true := decide_eq_true (by omega)
              have ek : (k : Int) - 1 = (p : Int) := by omega
              clear hkp
            all_goals
              go_upto_region 15 with fail
              have x1 : (0 : Int) ≤ (k : Int) := by omega
              have x2 : (k : Int) ≤ (s.size : Int) := by omega
              have x3 : ((k : Int)).toNat = k := by omega
              go_cut [14, 15] (fun s14 s15 wx => ∃ (g : Nat) (A' : Option Addr) (n' c' : Nat) (B' : Option Addr) (m' d' : Nat), s14 = .pointer (some ⟨g, 0, none⟩) ∧ s15 = .int .i64 0 ∧ Blk wx g 25 #[.slice A' n' c', .slice B' m' d'] ∧ Reads wx wx.heap.size 1 A' n' (txCells xs) ∧ Reads wx wx.heap.size 2 B' m' (prCells ps) ∧ Below w.heap.size w wx)
              case first =>
                have a1 : Below w.heap.size w (w3.alloc (.cells #[.slice none 0 0, .slice none 0 0] 25)) := bb3.alloc hs3 _
                have a2 : Blk (w3.alloc (.cells #[.slice none 0 0, .slice none 0 0] 25)) w3.heap.size 25 #[.slice none 0 0, .slice none 0 0] := Blk.new _ _ _
                have a3 : w3.heap.size < (w3.alloc (.cells #[.slice none 0 0, .slice none 0 0] 25)).heap.size := by simp
                go_region_held3 (fun _ => True) (trivial) ((go_at_call 18; refine (HQ.out _ (by first | exact a1 | exact a1.drew | exact bb3.drew | exact bb3)).mono ?_; rintro e w4 ⟨b4, A', n', c', B', m', d', rfl, hX, hP⟩; (try have a4 : Blk w4 w3.heap.size 25 #[.slice none 0 0, .slice none 0 0] := (b4.block w3.heap.size (by simp)).trans a2); (try have f0 := a4.frozen 0); (try have f1 := a4.frozen 1); (try have f2 := a4.cell 0); (try have f3 := a4.cell 1)))
                all_goals
                  have bb4 : Below w.heap.size w w4 := Below.trans (by first | exact a1 | exact a1.drew | exact bb3.drew | exact bb3) (b4.mono (by first | exact hs3 | (simp; omega)))
                  clear HQ
                  go_wp2_with fail
                  go_meet
                  first
                    | exact ⟨w4.heap.size, A', n', c', B', m', d', rfl, rfl, Blk.new _ _ _, ((hX.alloc _).reads), ((hP.alloc _).reads), bb4.alloc bb4.size _⟩
                    | (have s1 : Sep A' (some ⟨w3.heap.size, 0, none⟩) := fun a b ha hb => by
                         injection hb with hb
                         have := (hX.lt ha).1
                         simp at this
                         rw [← hb]; show a.block ≠ w3.heap.size; omega
                       have s2 : Sep B' (some ⟨w3.heap.size, 0, none⟩) := fun a b ha hb => by
                         injection hb with hb
                         have := (hP.lt ha).1
                         simp at this
                         rw [← hb]; show a.block ≠ w3.heap.size; omega
                       exact ⟨w3.heap.size, A', n', c', B', m', d', rfl, rfl, (a4.set_ 0 _).set_ 1 _, ((hX.only (only_setCell w4 w3.heap.size 0 _) s1).only (only_setCell _ w3.heap.size 1 _) s1).reads, ((hP.only (only_setCell w4 w3.heap.size 0 _) s2).only (only_setCell _ w3.heap.size 1 _) s2).reads,
                         (bb4.setCell (p := ⟨w3.heap.size, 0, none⟩) hs3 _).setCell (p := ⟨w3.heap.size, 1, none⟩) hs3 _⟩)
              case rest =>
                obtain ⟨g, A', n', c', B', m', d', rfl, rfl, hBk, hX, hP, hbw⟩ := hcut
                clear HQ z1 z2 y1 y2 y3 y4 x1 x2 x3
                have q0 : wc.cell? ⟨g, 0, none⟩ = some (.slice A' n' c') := hBk.cell 0
                have q1 : wc.cell? ⟨g, 1, none⟩ = some (.slice B' m' d') := hBk.cell 1
                have hn' : n' = n := by have h1 := hX.1; have h2 := hr.1; omega
                have hm' : m' = m := by have h1 := hP.1; have h2 := hr2.1; omega
                have ct := Lib.hid (fun dd => sameTexts_any A' A n' n c' cap wc.heap.size xs xs (wc.drewN dd) (hX.drewN dd) (((hr.below hbw).more hbw.size).drewN dd) (by omega) (by omega))
                have cp := Lib.hid (fun dd => same_any B' B m' m d' cap2 wc.heap.size ps ps (wc.drewN dd) (hP.drewN dd) (((hr2.below hbw).more hbw.size).drewN dd) (by omega) (by omega))
                clear hX hP
                clear hn' hm'
                have ct0 := Lib.hid (ct.out 0)
                go_wp2_with (go_at_call 19; refine ct0.out.mono ?_; rintro e w5 ⟨rfl, m5, rfl⟩; rw [show decide (xs = xs) = true from decide_eq_true rfl])
                refine (cp.out m5).mono ?_
                rintro e w6 ⟨rfl, m6, rfl⟩
                first
                  | rw [show decide (ps = ps) = true from decide_eq_true rfl]
                  | rw [show decide True = true from rfl]
                go_wp2_with fail
                go_ret
                exact ⟨rfl, below_drewN' hbw _⟩
          · obtain ⟨p, rfl⟩ : ∃ p, k = p + 1 := ⟨k - 1, by omega⟩
            have hpl : p < s.size := by omega
            have hb : ¬ s[p]'hpl = 10 := fun h => hex (.inr (by
              rw [Nat.add_sub_cancel, List.getElem?_eq_getElem (by simpa using hpl)]
              exact congrArg some h))
            have q : ((s[p].toNat : Int) != 10) = true := byte_bne (n := 10) (by decide) hb
            clear hex hb
            go_wp2_with fail
            go_round
            case rel => exact ⟨p, by omega, by go_num⟩
            case measure => simp [intOf]
end Go.Proofs.YtofloedgclodnaaDoor
