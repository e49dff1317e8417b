/-
  bowdlerlaw2.LineStrips: its walk: it answers true, and turns nothing that was there.
-/
import Derived.Test.YthcaphkkhiaoeaaDoorAliveL
namespace Go.Proofs.YthcaphkkhiaoeaaDoor
open Go.RowKit

set_option maxHeartbeats 2000000 in
set_option maxRecDepth 100000 in
theorem lineStrips_walk (l : ByteArray) (a b : Int) (w : World) (hg : Glb w) (hl : l.size ≤ 140737488351232) (_ : (Lit.int .i64 a).wf = true) (_ : (Lit.int .i64 b).wf = true) :
    Calls Tryd.prog 4 #[.string l, .int .i64 a, .int .i64 b] w fun e w' => e = .returned (.bool true) ∧ Below w.heap.size w w' := by
  by_cases hin : l.size ≤ 100 ∧ 0 ≤ a ∧ 0 ≤ b ∧ a ≤ 200 ∧ b ≤ 200
  · obtain ⟨h1, h2, h3, h4, h5⟩ := hin
    have HS := Lib.hid (strip_strip (L l) a b h2 h3)
    have HE := Lib.hid (expand_expand (L l))
    have HZ := Lib.hid (strip_zero (L l))
    have HC := Lib.hid (strip_col (L l) a).1
    have hx := expandT_le (L l)
    rw [length_L] at hx
    have hc := (colT_le (L l) 0).2
    rw [length_L] at hc
    have hsz : (S (stripT (L l) a)).size ≤ 500 := by
      rw [size_S]; unfold stripT; rw [List.length_drop]; omega
    have hsz2 : (S (expandT (L l))).size ≤ 500 := by rw [size_S]; omega
    clear hx
    go_enter Tryd.func4, Tryd.ntmps4
    go_wp2_with fail
    refine (alive_any _ hg).mono ?_
    rintro e w1 ⟨rfl, b1⟩
    have z1 := b1.size
    go_wp2_with fail
    refine (strip_any l a _ (by omega) (by omega)).mono ?_
    rintro e w2 ⟨rfl, b2⟩
    obtain ⟨X, hX⟩ : ∃ X, S (stripT (L l) a) = X := ⟨_, rfl⟩
    have HX : Hid (L X = stripT (L l) a) := Lib.hid (by rw [← hX, L_S])
    rw [hX] at hsz
    rw [hX]
    clear hX
    have bb2 := b1.trans (b2.mono z1)
    have z2 := bb2.size
    clear b1 b2
    go_wp2_with fail
    refine (strip_any X b _ (by omega) (by omega)).mono ?_
    rintro e w3 ⟨rfl, b3⟩
    rw [HX.out, HS.out]
    have bb3 := bb2.trans (b3.mono z2)
    have z3 := bb3.size
    clear bb2 b3
    go_wp2_with fail
    refine (strip_any l (a + b) _ (by omega) (by omega)).mono ?_
    rintro e w4 ⟨rfl, b4⟩
    generalize S (stripT (L l) (a + b)) = Y at *
    have bb4 := bb3.trans (b4.mono z3)
    have z4 := bb4.size
    clear bb3 b4
    go_wp2_with fail
    refine (expand_any l _ (by omega)).mono ?_
    rintro e w5 ⟨rfl, b5⟩
    obtain ⟨E, hE⟩ : ∃ E, S (expandT (L l)) = E := ⟨_, rfl⟩
    have HX2 : Hid (L E = expandT (L l)) := Lib.hid (by rw [← hE, L_S])
    have HX3 : Hid (S (expandT (L l)) = E) := Lib.hid hE
    rw [hE] at hsz2
    rw [hE]
    clear hE
    have bb5 := bb4.trans (b5.mono z4)
    have z5 := bb5.size
    clear bb4 b5
    go_wp2_with fail
    refine (expand_any E _ (by omega)).mono ?_
    rintro e w6 ⟨rfl, b6⟩
    rw [HX2.out, HE.out, HX3.out]
    have bb6 := bb5.trans (b6.mono z5)
    have z6 := bb6.size
    clear bb5 b6
    go_wp2_with fail
    refine (expand_any l _ (by omega)).mono ?_
    rintro e w7 ⟨rfl, b7⟩
    rw [HX3.out]
    have bb7 := bb6.trans (b7.mono z6)
    have z7 := bb7.size
    clear bb6 b7
    go_wp2_with fail
    refine (strip_any l a _ (by omega) (by omega)).mono ?_
    rintro e w8 ⟨rfl, b8⟩
    obtain ⟨X2, hX⟩ : ∃ X, S (stripT (L l) a) = X := ⟨_, rfl⟩
    have HX4 : Hid (L X2 = stripT (L l) a) := Lib.hid (by rw [← hX, L_S])
    have hszz : X2.size ≤ 500 := by
      rw [← hX, size_S]
      have := congrArg List.length HX.out
      rw [length_L] at this
      omega
    rw [hX]
    clear hX
    have bb8 := bb7.trans (b8.mono z7)
    have z8 := bb8.size
    clear bb7 b8
    go_wp2_with fail
    refine (indent_any X2 _ (by omega)).mono ?_
    rintro e w9 ⟨rfl, b9⟩
    rw [HX4.out, HC.out]
    have bb9 := bb8.trans (b9.mono z8)
    have z9 := bb9.size
    clear bb8 b9
    go_wp2_with fail
    refine (indent_any l _ (by omega)).mono ?_
    rintro e w10 ⟨rfl, b10⟩
    have bb10 := bb9.trans (b10.mono z9)
    have z10 := bb10.size
    clear bb9 b10
    have q : (((colT 0 (L l) - (max a 0).toNat : Nat) : Int) == max ((colT 0 (L l) : Int) - a) 0) = true := beq_iff_eq.2 (by omega)
    generalize colT 0 (L l) = c at *
    go_wp2_with fail
    refine (strip_any l 0 _ (by omega) (by omega)).mono ?_
    rintro e w11 ⟨rfl, b11⟩
    rw [HZ.out, HX3.out]
    have bb11 := bb10.trans (b11.mono z10)
    have z11 := bb11.size
    clear bb10 b11
    go_wp2_with fail
    refine (expand_any l _ (by omega)).mono ?_
    rintro e w12 ⟨rfl, b12⟩
    rw [HX3.out]
    have bb12 := bb11.trans (b12.mono z11)
    clear bb11 b12
    go_wp2_with fail
    go_ret
    exact ⟨rfl, bb12⟩
  · rcases (by omega : 100 < l.size ∨ (l.size ≤ 100 ∧ a < 0) ∨ (l.size ≤ 100 ∧ 0 ≤ a ∧ b < 0) ∨ (l.size ≤ 100 ∧ 0 ≤ a ∧ 0 ≤ b ∧ 200 < a) ∨ (l.size ≤ 100 ∧ 0 ≤ a ∧ 0 ≤ b ∧ a ≤ 200 ∧ 200 < b)) with h | ⟨h1, h2⟩ | ⟨h1, h2, h3⟩ | ⟨h1, h2, h3, h4⟩ | ⟨h1, h2, h3, h4, h5⟩
    all_goals
      clear hin
      go_enter Tryd.func4, Tryd.ntmps4
      go_wp2_with fail
      refine (alive_any _ hg).mono ?_
      rintro e w1 ⟨rfl, b1⟩
      go_wp2_with fail
      go_ret
      exact ⟨rfl, b1⟩
end Go.Proofs.YthcaphkkhiaoeaaDoor
