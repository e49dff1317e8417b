/-
  (*Book).Inls, while other rows are kept too: of other elements, and one of lists that lies apart of the Book's.
-/
import Derived.Test.YtfdfpimilmhhoaaInlRows2
import Derived.Deep.RegionHeld3
import Derived.Deep.RegionLaw
import Derived.Deep.Cut
namespace Go.Proofs.Ytfdfpimilmhhoaa
open Go.RowKit
set_option linter.unusedVariables false

/-- the Book, whose lists lie apart of X -/
structure LBx (w : World) (base g : Nat) (ls ws : List LRow) (X : Option Addr) : Prop where
  bg : base ≤ g
  ex : ∃ A1 c1 A2 c2, Blk w g 39 (lbkCells (.slice A1 ls.length c1) (.slice A2 ws.length c2)) ∧ Own w base 51 1 A1 ls.length c1 (lrowCells ls) ∧ Own w base 51 1 A2 ws.length c2 (lrowCells ws) ∧ Sep A1 A2 ∧ Sep A1 X ∧ Sep A2 X
theorem LBx.book {w : World} {base g : Nat} {ls ws : List LRow} {X : Option Addr} (h : LBx w base g ls ws X) : LBk w base g ls ws := by
  obtain ⟨h1, A1, c1, A2, c2, hB, hO1, hO2, hs, _, _⟩ := h
  exact ⟨h1, A1, c1, A2, c2, hB, hO1, hO2, hs⟩
theorem LBx.below {w w' : World} {base g K : Nat} {ls ws : List LRow} {X : Option Addr} (h : LBx w base g ls ws X) (hb : Below K w w') (hK : w.heap.size ≤ K) : LBx w' base g ls ws X := by
  obtain ⟨h1, A1, c1, A2, c2, hB, hO1, hO2, hs, q1, q2⟩ := h
  exact ⟨h1, A1, c1, A2, c2, hB.below hb (Nat.lt_of_lt_of_le hB.lt hK), hO1.below hb hK, hO2.below hb hK, hs, q1, q2⟩
/-- rows of other elements than lists, and the Book -/
def KeepAny (w w' : World) : Prop := ∀ (e size b : Nat) (A : Option Addr) (n c : Nat) (xs : List Value), e ≠ 51 → e ≠ 39 → Own w b e size A n c xs → Own w' b e size A n c xs

set_option maxHeartbeats 4000000 in
set_option maxRecDepth 100000 in
theorem inlsX_any (w : World) (base g : Nat) (ls ws : List LRow) (X : Option Addr) (bX nX cX : Nat) (ysX : List Value) (A : Option Addr) (n c : Nat) (xs : List Inl) (h : LBx w base g ls ws X) (hX : Own w bX 51 1 X nX cX ysX) (hls : ls.length < 250) (hws : ws.length < 250) (hA : Own w base 95 5 A n c (inlCells xs)) (hn : n ≤ 1048576) (hbw : base ≤ w.heap.size) :
    Calls Try.prog 22 #[.pointer (some ⟨g, 0, none⟩), .slice A n c] w fun e w' => e = .returned (.tuple #[]) ∧ ∃ A' c', LBx w' base g (ls ++ [⟨A, c, xs⟩]) (ws ++ [⟨A', c', xs⟩]) X ∧ Own w' bX 51 1 X nX cX ysX ∧ KeepAny w w' ∧ Own w' w.heap.size 95 5 A' n c' (inlCells xs) ∧ Below base w w' ∧ w.heap.size ≤ w'.heap.size := by
  obtain ⟨hbg, A1, c1, A2, c2, hB, hO1, hO2, hs12, hs1x, hs2x⟩ := h
  have hlen : xs.length = n := by have := hA.len; rw [flat_length _ 5 inl_len] at this; omega
  have HL := Lib.hid hlen
  clear hlen
  obtain ⟨n1, hn1⟩ : ∃ n1, ls.length = n1 := ⟨_, rfl⟩
  obtain ⟨n2, hn2⟩ : ∃ n2, ws.length = n2 := ⟨_, rfl⟩
  rw [hn1] at hB hO1 hls
  rw [hn2] at hB hO2 hws
  have HN1 := Lib.hid hn1
  have HN2 := Lib.hid hn2
  clear hn1 hn2
  have k0 : w.cell? ⟨g, 0 + 6, none⟩ = some (.slice A1 n1 c1) := hB.cell 6
  have hne1 := Lib.hid (hO1.blk_ne hB (by decide))
  go_enter Try.func22, Try.ntmps22
  go_upto_region 2 with (at_builtin; refine wpList_app1 Try.elInlss rfl (.tmp 14) (.tmp 16) rfl rfl (by exact hO1.alloc _) rfl (Blk.new' _ _ _ _ (by simp)) rfl (by simp [Value.oneCell']) (by simp only [maxLen]; omega) (by omega) (by simp; omega) ?_
                         intro A3 c3 w3 hO3 ho3 hm3
                         have hB3 := (hB.alloc (.cells #[.slice A n c] 51)).only ho3 hne1.out
                         have z0 : w3.cell? ⟨g, 0 + 6, none⟩ = some (.slice A1 n1 c1) := hB3.cell 6
                         have z1 := hB3.frozen 6)
  have hB4 : Blk (w3.setCell ⟨g, 6, none⟩ (.slice A3 (n1 + 1) c3)) g 39 (lbkCells (.slice A3 (n1 + 1) c3) (.slice A2 n2 c2)) := hB3.set_ 6 _
  have hO34 := own_setL hO3 hB3 (by decide) 6 (.slice A3 (n1 + 1) c3)
  have hO23 := (hO2.alloc (.cells #[.slice A n c] 51)).only ho3 hs12.symm
  have hO24 := own_setL hO23 hB3 (by decide) 6 (.slice A3 (n1 + 1) c3)
  have HK4 : Hid (KeepAny w (w3.setCell ⟨g, 6, none⟩ (.slice A3 (n1 + 1) c3))) := Lib.hid fun e size b B m d ys he1 he2 o =>
    own_setL ((o.alloc (.cells #[.slice A n c] 51)).only ho3 (o.sep_ne hO1 he1)) hB3 he2 6 _
  have hA4 := HK4.out _ _ _ _ _ _ _ (by decide) (by decide) hA
  have hX4 := own_setL ((hX.alloc (.cells #[.slice A n c] 51)).only ho3 hs1x.symm) hB3 (by decide) 6 (.slice A3 (n1 + 1) c3)
  have hs3x : Sep A3 X := hs1x.moved hm3 (K := (w.alloc (.cells #[.slice A n c] 51)).heap.size) (fun b hb => by have := (hX.lt hb).2; simp; omega) (Nat.le_refl _)
  have hs32 : Sep A3 A2 := hs12.moved hm3 (K := (w.alloc (.cells #[.slice A n c] 51)).heap.size) (fun b hb => by have := (hO2.lt hb).2; simp; omega) (Nat.le_refl _)
  have bb4 : Below base w (w3.setCell ⟨g, 6, none⟩ (.slice A3 (n1 + 1) c3)) := ((ho3.of_alloc.below (fun a ha => (hO1.lt ha).1) hbw)).setCell (p := ⟨g, 6, none⟩) hbg _
  have hz4 : w.heap.size ≤ (w3.setCell ⟨g, 6, none⟩ (.slice A3 (n1 + 1) c3)).heap.size := by have := ho3.size; simp [World.setCell] at this ⊢; omega
  clear hB hO1 hO2 hO3 hO23 hB3 z0 z1 k0 hs12 hA hX hs1x
  generalize w3.setCell ⟨g, 6, none⟩ (.slice A3 (n1 + 1) c3) = w4 at *
  have HCP := Lib.hid (copyInls_any A n c _ xs w4.drew hA4.reads.drew hn)
  have p1 : w4.cell? ⟨g, 0 + 7, none⟩ = some (.slice A2 n2 c2) := hB4.cell 7
  have hg4 := hB4.lt
  have hne2 := Lib.hid (hO24.blk_ne hB4 (by decide))
  go_region_law (first
    | (refine step_app1 Try.elInlss rfl (.tmp 24) (.tmp 27) rfl rfl (by exact hO25.alloc _) rfl (Blk.new' _ _ _ _ (by simp)) rfl (by simp [Value.oneCell']) (by simp only [maxLen]; omega) (by omega) (by simp; omega) ?_
       intro A6 c6 w6 hO6 ho6 hm6
       have hB6 := (hB5.alloc (.cells #[.slice A' n c'] 51)).only ho6 hne2.out
       have z0 := hB6.frozen 7
       have z1 : w6.cell? ⟨g, 7, none⟩ = some (.slice A2 n2 c2) := hB6.cell 7)
    | (go_simp
       go_at_call 70
       refine Calls.mono HCP.out ?_
       rintro e w5 ⟨A', c', rfl, o5, b0⟩
       have b5 := below_of_drew b0
       have hB5 := hB4.below b5 hg4
       have hO25 := hO24.below b5 (Nat.le_refl _)
       have hz5 := b5.size
       have zz : w5.cell? ⟨g, 0 + 7, none⟩ = some (.slice A2 n2 c2) := hB5.cell 7
       have zy : (w5.alloc (.cells #[.slice A' n c'] 51)).cell? ⟨g, 0 + 7, none⟩ = some (.slice A2 n2 c2) := (hB5.alloc _).cell 7))
  all_goals
    go_wp2_with fail
    go_end0
    refine ⟨rfl, A', c', ⟨hbg, A3, c3, A6, c6, ?_, ?_, ?_, ?_, hs3x, ?_⟩, ?_, ?_, ?_, ?_, ?_⟩
    · have := hB6.set_ 7 (.slice A6 (n2 + 1) c6)
      rw [List.length_append, List.length_append, HN1.out, HN2.out]
      exact this
    · have h5 := (hO34.below b5 (Nat.le_refl _)).alloc (.cells #[.slice A' n c'] 51)
      have h6 := own_setL (h5.only ho6 hs32) hB6 (by decide) 7 (.slice A6 (n2 + 1) c6)
      rw [List.length_append, HN1.out]
      simpa [lrowCells, LRow.cell, HL.out] using h6
    · have h6 := own_setL hO6 hB6 (by decide) 7 (.slice A6 (n2 + 1) c6)
      rw [List.length_append, HN2.out]
      simpa [lrowCells, LRow.cell, HL.out] using h6
    · exact (hs32.symm.moved hm6 (K := (w5.alloc (.cells #[.slice A' n c'] 51)).heap.size) (fun b hb => by have := (hO34.lt hb).2; simp; omega) (Nat.le_refl _)).symm
    · exact hs2x.moved hm6 (K := (w5.alloc (.cells #[.slice A' n c'] 51)).heap.size) (fun b hb => by have := (hX4.lt hb).2; simp; omega) (Nat.le_refl _)
    · have h5 := (hX4.below b5 (Nat.le_refl _)).alloc (.cells #[.slice A' n c'] 51)
      exact own_setL (h5.only ho6 hs2x.symm) hB6 (by decide) 7 _
    · intro e size b B m d ys he1 he2 o
      have o4 := HK4.out _ _ _ _ _ _ _ he1 he2 o
      have h5 := (o4.below b5 (Nat.le_refl _)).alloc (.cells #[.slice A' n c'] 51)
      exact own_setL (h5.only ho6 ((o4.below b5 (Nat.le_refl _)).sep_ne hO25 he1)) hB6 he2 7 _
    · have h5 := (o5.alloc (.cells #[.slice A' n c'] 51)).only ho6 (o5.sep_ne hO25 (by decide))
      exact (own_setL h5 hB6 (by decide) 7 _).base_le hz4
    · have h5 : Below base w4 w5 := b5.mono (show base ≤ w4.heap.size by omega)
      have h6 : Below base w5 w6 := ho6.of_alloc.below (fun a ha => (hO25.lt ha).1) (by omega)
      exact (bb4.trans (h5.trans h6)).setCell (p := ⟨g, 7, none⟩) hbg _
    · have := ho6.size
      simp [World.setCell] at this ⊢
      omega
end Go.Proofs.Ytfdfpimilmhhoaa
