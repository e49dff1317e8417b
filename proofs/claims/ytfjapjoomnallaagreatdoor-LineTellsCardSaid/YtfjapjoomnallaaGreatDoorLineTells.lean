/-
  bowdlerlaw2.LineTells: its walk: it answers true, and turns nothing that was there.
-/
import Derived.Test.YtfjapjoomnallaaGreatDoorAliveL
import Derived.Test.YtfjapjoomnallaaGreatDoorLine2
import Derived.Test.YtfjapjoomnallaaGreatDoorRefLine3
import Derived.Test.YtfjapjoomnallaaGreatDoorBookApart
import Derived.Test.YtfjapjoomnallaaGreatDoorBookLent
namespace Go.Proofs.YtfjapjoomnallaaGreatDoor
open Go.RowKit
set_option linter.unusedVariables false

theorem tells_len (s : ByteArray) : (linesB s).length ≤ s.size + 1 ∧ (joinT ((linesB s).map L)).length ≤ s.size + 1 := by
  have h0 : (linesB s).map L = linesT (L s) := by
    unfold linesB
    rw [List.map_map]
    conv => rhs; rw [← List.map_id (linesT (L s))]
    congr 1
  refine ⟨?_, ?_⟩
  · unfold linesB
    rw [List.length_map, lines_count]
    have h1 := List.count_le_length (a := (10 : UInt8)) (l := L s)
    rw [length_L] at h1
    split <;> omega
  · rw [h0]
    rcases join_lines (L s) with h | h
    · rw [h, length_L]; omega
    · rw [h, List.length_append, length_L]; simp
theorem sameTexts_true (A A' : Option Addr) (n c c' K : Nat) (xs : List ByteArray) (w : World) (ha : Reads w K 1 A n (txCells xs)) (hb : Reads w K 1 A' n (txCells xs)) (hn : n ≤ 1099511627776) :
    Calls Tryz.prog 8 #[.slice A n c, .slice A' n c'] w fun e w' => e = .returned (.bool true) ∧ ∃ m, w' = w.drewN m :=
  (sameTexts_any A A' n n c c' K xs xs w ha hb hn hn).mono fun e w' h => ⟨by rw [h.1, decide_eq_true rfl], h.2⟩
theorem split_n (s : ByteArray) (n : Nat) (w : World) (hg : Glb w) (hs : s.size ≤ 1048576) (hn : (linesB s).length = n) :
    Calls Tryz.prog 5 #[.string s] w fun e w' => ∃ A c, e = .returned (.slice A n c) ∧ Own w' w.heap.size 9 1 A n c (txCells (linesB s)) ∧ Below w.heap.size w w' :=
  (split_any s w hg hs).mono fun e w' ⟨A, k, c, h1, h2, h3⟩ => by
    have h4 : n = k := by have := h2.len; simp at this; omega
    subst h4
    exact ⟨A, c, h1, h2, h3⟩
theorem refSplit_n (s : ByteArray) (n : Nat) (w : World) (hs : s.size ≤ 1048576) (hn : (linesB s).length = n) :
    Calls Tryz.prog 9 #[.string s] w fun e w' => ∃ A c, e = .returned (.slice A n c) ∧ Own w' w.heap.size 9 1 A n c (txCells (linesB s)) ∧ Below w.heap.size w w' :=
  (refSplit_any s w hs).mono fun e w' ⟨A, k, c, h1, h2, h3⟩ => by
    have h4 : n = k := by have := h2.len; simp at this; omega
    subst h4
    exact ⟨A, c, h1, h2, h3⟩
theorem Own.readsTake {w : World} {base n d : Nat} {B : Option Addr} {xs : List ByteArray} {x : ByteArray} (h : Own w base 9 1 B (n + 1) d (txCells (xs ++ [x]))) : Reads w w.heap.size 1 B n (txCells xs) := by
  have hl := h.len
  simp at hl
  have h1 := (h.take (m := n) (by omega)).reads
  have : (txCells (xs ++ [x])).take (n * 1) = txCells xs := by
    rw [Nat.mul_one]
    unfold txCells
    rw [← List.map_take, List.take_append_of_le_length (by omega), List.take_of_length_le (by omega)]
  rw [this] at h1
  exact h1

set_option maxHeartbeats 8000000 in
set_option maxRecDepth 100000 in
theorem lineTells_walk (s l : ByteArray) (a : Int) (w : World) (hg : Glb w) (_ : s.size ≤ 140737488351232) (_ : l.size ≤ 140737488351232) (ha : (Lit.int .i64 a).wf = true) :
    Calls Tryz.prog 3 #[.string s, .string l, .int .i64 a] w fun e w' => e = .returned (.bool true) ∧ Below w.heap.size w w' := by
  have hab : -9223372036854775808 ≤ a ∧ a ≤ 9223372036854775807 := by
    simp [Lit.wf, IntKind.min, IntKind.max, IntKind.signed, IntKind.bits] at ha
    omega
  by_cases hin : s.size ≤ 400 ∧ l.size ≤ 100
  · obtain ⟨h400, h100⟩ := hin
    obtain ⟨hlen, hjo⟩ := tells_len s
    obtain ⟨n, hn⟩ : ∃ n, (linesB s).length = n := ⟨_, rfl⟩
    have hn4 : n ≤ 401 := by omega
    have HSP := Lib.hid (fun W (h : Glb W) => split_n s n W h (by omega) hn)
    have HRS := Lib.hid (fun W => refSplit_n s n W (by omega) hn)
    generalize linesB s = xs at *
    have hjo2 : (joinT (xs.map L)).length ≤ 401 := by omega
    have HX := Lib.hid (fun W => expand_any l W (by omega))
    have HRX := Lib.hid (fun W => refExpand_any l W (by omega))
    have HI := Lib.hid (fun W => indent_any l W (by omega))
    have HRI := Lib.hid (fun W => refIndent_any l W (by omega))
    have HT := Lib.hid (fun W => strip_any l a W (by omega) hab)
    have HRT := Lib.hid (fun W => refStrip_any l a W (by omega) hab)
    have HBL := Lib.hid (fun W => blank_any l W (by omega))
    have HRB := Lib.hid (fun W => refBlank_any l W (by omega))
    have HN := Lib.hid hn
    have HJ := Lib.hid hjo2
    clear hn hlen hjo hjo2 hab ha
    go_enter Tryz.func3, Tryz.ntmps3
    go_wp2_with fail
    refine (alive_any _ hg).mono ?_
    rintro e w1 ⟨rfl, b1⟩
    have z1 := b1.size
    have hg1 := hg.below b1
    have hB2 : Blk (w1.alloc (.cells (bkCells (.slice none 0 0) (.slice none 0 0)) 33)) w1.heap.size 33 (bkCells (.slice none 0 0) (.slice none 0 0)) := Blk.new w1 _ _
    have hg2 := hg1.alloc (.cells (bkCells (.slice none 0 0) (.slice none 0 0)) 33)
    have bb2 : Below w1.heap.size w1 (w1.alloc (.cells (bkCells (.slice none 0 0) (.slice none 0 0)) 33)) := (Below.refl _ _).alloc (Nat.le_refl _) _
    obtain ⟨w2, hw2⟩ : ∃ w2, w1.alloc (.cells (bkCells (.slice none 0 0) (.slice none 0 0)) 33) = w2 := ⟨_, rfl⟩
    rw [hw2] at hB2 hg2 bb2
    have HW2 := Lib.hid hw2
    have z2 := bb2.size
    have hR2 : BkR w2 w1.heap.size w1.heap.size [] [] := ⟨Nat.le_refl _, none, 0, none, 0, hB2, Own.nil _ _ _ _, Own.nil _ _ _ _, Sep.none_l⟩
    clear hw2 hB2
    go_wp2_with fail
    refine (show Calls _ _ _ (w1.alloc (.cells (bkCells (.slice none 0 0) (.slice none 0 0)) 33)) _ from HW2.out ▸ HSP.out w2 hg2).mono ?_
    rintro e w3 ⟨A3, c3, rfl, hO3, b3⟩
    rw [HW2.out] at hO3 b3
    have hR3 := hR2.below b3 (Nat.le_refl _)
    have hg3 := hg2.below b3
    have z3 := b3.size
    have bb3 := bb2.trans (b3.mono z2)
    clear hR2 hg2 bb2 b3 HW2
    go_wp2_with fail
    refine (HSP.out _ hg3).mono ?_
    rintro e w4 ⟨A4, c4, rfl, hO4, b4⟩
    have hS34 : Sep A3 A4 := fun p q hp hq => by have h1 := (hO3.lt hp).2; have h2 := (hO4.lt hq).1; omega
    have hR4 := hR3.below b4 (Nat.le_refl _)
    have hO34 := (hO3.below b4 (Nat.le_refl _)).base_le (base' := w1.heap.size) z2
    have hO44 := hO4.base_le (base' := w1.heap.size) (by omega)
    have z4 := b4.size
    have bb4 := bb3.trans (b4.mono (by omega))
    clear hR3 hO3 hO4 hg3 b4 bb3
    go_wp2_with fail
    refine (texts_any _ w1.heap.size w1.heap.size [] [] A3 n c3 xs hR4 (by decide) (by decide) hO34 (by omega) (by omega)).mono ?_
    rintro e w5 ⟨rfl, A5, c5, hR5, hO5, k5, b5, z5⟩
    have hO35 := k5 _ _ _ _ _ hO34
    have hO45 := k5 _ _ _ _ _ hO44
    have bb5 := bb4.trans b5
    clear hR4 hO34 hO44 k5 b5 bb4
    go_wp2_with fail
    refine (texts_any _ w1.heap.size w1.heap.size _ _ A4 n c4 xs hR5 (by simp) (by simp) hO45 (by omega) (by omega)).mono ?_
    rintro e w6 ⟨rfl, A6, c6, hR6, hO6, k6, b6, z6⟩
    have hO36 := k6 _ _ _ _ _ hO35
    have hO46 := k6 _ _ _ _ _ hO45
    have hO56 := k6 _ _ _ _ _ hO5
    have bb6 := bb5.trans b6
    have hT6 : TRows w6 w1.heap.size [⟨A3, c3, xs⟩, ⟨A4, c4, xs⟩] := by
      refine ⟨?_, ?_⟩
      · intro r hr
        simp only [List.mem_cons, List.not_mem_nil, or_false] at hr
        rcases hr with rfl | rfl
        · rw [HN.out]; exact hO36
        · rw [HN.out]; exact hO46
      · simpa using hS34
    have hR6' : BkR w6 w1.heap.size w1.heap.size [⟨A3, c3, xs⟩, ⟨A4, c4, xs⟩] [⟨A5, c5, xs⟩, ⟨A6, c6, xs⟩] := hR6
    clear hR5 hO35 hO45 hO5 k6 b6 bb5 hR6 hS34
    go_wp2_with fail
    refine (lentTexts_any A4 n c4 w6.heap.size xs _ hO46.reads (by omega)).mono ?_
    rintro e w7 ⟨B, d, rfl, hOB, b7⟩
    have HST : Hid (∀ W, Below w7.heap.size w7 W → BkR W w1.heap.size w1.heap.size [⟨A3, c3, xs⟩, ⟨A4, c4, xs⟩] [⟨A5, c5, xs⟩, ⟨A6, c6, xs⟩] ∧ TRows W w1.heap.size [⟨A3, c3, xs⟩, ⟨A4, c4, xs⟩] ∧ Own W w6.heap.size 9 1 B (n + 1) d (txCells (xs ++ [markB])) ∧
        Reads W W.heap.size 1 A3 n (txCells xs) ∧ Reads W W.heap.size 1 A4 n (txCells xs) ∧ Reads W W.heap.size 1 A5 n (txCells xs) ∧ Reads W W.heap.size 1 A6 n (txCells xs)) := Lib.hid fun W hW => by
      have z7 := b7.size
      have bW : Below w6.heap.size w6 W := b7.trans (hW.mono z7)
      have hl : ∀ (A : Option Addr) b c, Own w6 b 9 1 A n c (txCells xs) → Reads W W.heap.size 1 A n (txCells xs) := fun A b c h => (h.below bW (Nat.le_refl _)).reads
      exact ⟨hR6'.below bW (Nat.le_refl _), hT6.below bW (Nat.le_refl _), hOB.below hW (Nat.le_refl _), hl _ _ _ hO36, hl _ _ _ hO46, hl _ _ _ hO56, hl _ _ _ hO6⟩
    have z7 := b7.size
    have bb7 := bb6.trans (b7.mono (by omega))
    clear hT6 hR6' hO36 hO46 hO56 hO6 hOB b7 bb6
    go_wp2_with fail
    refine (HRS.out _).mono ?_
    rintro e w8 ⟨A8, c8, rfl, hO8, b8⟩
    have z8 := b8.size
    have r8 := hO8.reads
    obtain ⟨_, _, _, r3, r4, _, _⟩ := HST.out w8 b8
    go_wp2_with fail
    refine (sameTexts_true A3 A8 n c3 c8 w8.heap.size xs _ r3 r8 (by omega)).mono ?_
    rintro e w9 ⟨rfl, m9, hw9⟩
    have b9 : Below w7.heap.size w7 w9 := by rw [hw9]; exact below_drewN' b8 m9
    clear hw9 r3 r4 r8 hO8 b8
    obtain ⟨_, _, _, r3, r4, _, _⟩ := HST.out w9 b9
    go_wp2_with fail
    refine (sameTexts_true A3 A4 n c3 c4 w9.heap.size xs _ r3 r4 (by omega)).mono ?_
    rintro e w10 ⟨rfl, m10, hw10⟩
    have b10 : Below w7.heap.size w7 w10 := by rw [hw10]; exact below_drewN' b9 m10
    have z10 := b10.size
    clear hw10 r3 r4 b9
    obtain ⟨_, _, oB, _, _, _, _⟩ := HST.out w10 b10
    have rB := oB.readsTake
    go_wp2_with fail
    refine (join_any B n d w10.heap.size xs _ rB (Nat.le_refl _) (by have := HJ.out; omega)).mono ?_
    rintro e w11 ⟨rfl, b11⟩
    have b11 := b10.trans (b11.mono z10)
    have z11 := b11.size
    clear rB oB b10
    obtain ⟨_, _, _, _, r4, _, _⟩ := HST.out w11 b11
    go_wp2_with fail
    refine (refJoin_any A4 n c4 w11.heap.size xs _ r4 (by omega) (by have := HJ.out; omega)).mono ?_
    rintro e w12 ⟨rfl, rfl⟩
    clear r4
    generalize S (joinT (xs.map L)) = jt at *
    obtain ⟨_, _, oB, _, r4, _, _⟩ := HST.out w12 b11
    go_wp2_with fail
    refine (staysTexts_any B A4 n d c4 w12.heap.size w6.heap.size xs _ oB r4 (by omega)).mono ?_
    rintro e w13 ⟨rfl, m13, hw13⟩
    have b13 : Below w7.heap.size w7 w13 := by rw [hw13]; exact below_drewN' b11 m13
    have z13 := b13.size
    clear hw13 oB r4 b11
    go_wp2_with fail
    refine (HBL.out _).mono ?_
    rintro e w14 ⟨rfl, b14⟩
    have b14 := b13.trans (b14.mono z13)
    have z14 := b14.size
    clear b13
    go_wp2_with fail
    refine (HRB.out _).mono ?_
    rintro e w15 ⟨rfl, rfl⟩
    generalize blankT (L l) = v at *
    go_wp2_with fail
    refine (HX.out _).mono ?_
    rintro e w16 ⟨rfl, b16⟩
    have b16 := b14.trans (b16.mono z14)
    have z16 := b16.size
    clear b14
    go_wp2_with fail
    refine (HRX.out _).mono ?_
    rintro e w17 ⟨rfl, rfl⟩
    go_wp2_with fail
    refine (HI.out _).mono ?_
    rintro e w18 ⟨rfl, b18⟩
    have b18 := b16.trans (b18.mono z16)
    have z18 := b18.size
    clear b16
    go_wp2_with fail
    refine (HRI.out _).mono ?_
    rintro e w19 ⟨rfl, rfl⟩
    go_wp2_with fail
    refine (HT.out _).mono ?_
    rintro e w20 ⟨rfl, b20⟩
    have b20 := b18.trans (b20.mono z18)
    have z20 := b20.size
    clear b18
    go_wp2_with fail
    refine (HRT.out _).mono ?_
    rintro e w21 ⟨rfl, rfl⟩
    obtain ⟨hR, hT, _, _, _, r5, r6⟩ := HST.out w21 b20
    go_wp2_with fail
    refine (apart_any _ w1.heap.size w1.heap.size 2 _ _ hR hT rfl rfl (by omega) ?_ (by omega) ?_).mono ?_
    · intro r hr
      simp only [List.mem_cons, List.not_mem_nil, or_false] at hr
      have := HN.out
      rcases hr with rfl | rfl <;> (simp only; omega)
    · intro i r q hr hq
      have : i = 0 ∨ i = 1 := by
        have := (List.getElem?_eq_some_iff.1 hr).1
        simp at this
        omega
      have h1 := HN.out
      rcases this with rfl | rfl
      · simp at hr hq
        subst hr; subst hq
        exact ⟨rfl, by rw [h1]; exact r5⟩
      · simp at hr hq
        subst hr; subst hq
        exact ⟨rfl, by rw [h1]; exact r6⟩
    rintro e w22 ⟨rfl, b22⟩
    have bt := b1.trans ((bb7.trans ((b20.mono (by omega)).trans b22)).mono z1)
    go_wp2_with fail
    go_ret
    exact ⟨rfl, bt⟩
  · rcases (by omega : 400 < s.size ∨ (s.size ≤ 400 ∧ 100 < l.size)) with h | ⟨h1, h2⟩
    all_goals
      clear hin
      go_enter Tryz.func3, Tryz.ntmps3
      go_wp2_with fail
      refine (alive_any _ hg).mono ?_
      rintro e w1 ⟨rfl, b1⟩
      go_wp2_with fail
      go_ret
      exact ⟨rfl, b1⟩
end Go.Proofs.YtfjapjoomnallaaGreatDoor
