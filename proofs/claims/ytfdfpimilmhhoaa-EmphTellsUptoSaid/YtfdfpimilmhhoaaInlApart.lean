/-
  (*Book).Apart: a Book with lists of texts alone.
-/
import Derived.Test.YtfdfpimilmhhoaaInlMarked
namespace Go.Proofs.Ytfdfpimilmhhoaa
open Go.RowKit
set_option linter.unusedVariables false

theorem LMarkTo.get {m : Nat} {ls rs : List LRow} (h : LMarkTo m ls rs) (hm : ls.length = m) {j : Nat} {o : LRow} (ho : rs[j]? = some o) : ∃ r, ls[j]? = some r ∧ o = lmarkR j r := by
  rw [h.2 j] at ho
  cases hr : ls[j]? with
  | none => rw [hr] at ho; cases ho
  | some r =>
    rw [hr] at ho
    have hjm : j < m := by rw [← hm]; exact (List.getElem?_eq_some_iff.1 hr).1
    simp only [Option.map_some, Option.some.injEq] at ho
    rw [if_pos hjm] at ho
    exact ⟨r, rfl, ho.symm⟩
theorem LMarkTo.cells {m : Nat} {ls rs : List LRow} (h : LMarkTo m ls rs) (hm : ls.length = m) : lrowCells rs = lrowCells ls := by
  apply List.ext_getElem?
  intro j
  unfold lrowCells
  rw [List.getElem?_map, List.getElem?_map]
  cases hr : rs[j]? with
  | none =>
    have := List.getElem?_eq_none_iff.1 hr
    rw [h.1] at this
    rw [List.getElem?_eq_none this]
  | some o =>
    obtain ⟨r, h1, rfl⟩ := h.get hm hr
    rw [h1]
    simp [LRow.cell, lmarkR, lmarksT_len]
theorem LMarkTo.marks {m : Nat} {ls rs : List LRow} (h : LMarkTo m ls rs) (hm : ls.length = m) : ∀ j r, rs[j]? = some r → r.xs = lmarksT j 0 r.xs.length := by
  intro j o ho
  obtain ⟨r, h1, rfl⟩ := h.get hm ho
  simp [lmarkR, lmarksT_len]
theorem LMarkTo.size {m N : Nat} {ls rs : List LRow} (h : LMarkTo m ls rs) (hm : ls.length = m) (hN : ∀ r ∈ ls, r.xs.length ≤ N) : ∀ r ∈ rs, r.xs.length ≤ N := by
  intro o ho
  obtain ⟨j, hj⟩ := List.mem_iff_getElem?.1 ho
  obtain ⟨r, h1, rfl⟩ := h.get hm hj
  have := hN r (List.mem_of_getElem? h1)
  simpa [lmarkR, lmarksT_len] using this
theorem LMarkTo.marks6 {m : Nat} {ls rs : List LRow} (h : LMarkTo m ls rs) (hm : ls.length = m) (hN : ∀ r ∈ ls, r.xs.length ≤ 500000) : ∀ j r, rs[j]? = some r → r.xs = lmarksT j 0 r.xs.length ∧ r.xs.length ≤ 600000 := by
  intro j r hr
  have := h.size hm hN r (List.mem_of_getElem? hr)
  exact ⟨h.marks hm j r hr, by omega⟩
theorem LBk.marked {w : World} {base g m : Nat} {ls ws rs : List LRow} (h : LBk w base g ls ws) (hk : LMarkTo m ls rs) (hm : ls.length = m) : LBk w base g rs ws := by
  obtain ⟨h1, A1, c1, A2, c2, hB, hO1, hO2, hs⟩ := h
  exact ⟨h1, A1, c1, A2, c2, by rw [hk.1]; exact hB, by rw [hk.1, hk.cells hm]; exact hO1, hO2, hs⟩

set_option maxHeartbeats 8000000 in
set_option maxRecDepth 100000 in
theorem apartInls_any (w : World) (base g m : Nat) (ls ws : List LRow) (h : LBk w base g ls ws) (hT : LRows w base ls) (hm : ls.length = m) (hm2 : ws.length = m) (hmx : m ≤ 250) (hsz : ∀ r ∈ ls, r.xs.length ≤ 500000) (hbw : base ≤ w.heap.size)
    (hR : ∀ (i : Nat) (r s : LRow), ls[i]? = some r → ws[i]? = some s → r.xs = s.xs ∧ Reads w w.heap.size 5 s.a s.xs.length (inlCells s.xs)) :
    Calls Try.prog 17 #[.pointer (some ⟨g, 0, none⟩)] w fun e w' => e = .returned (.bool true) ∧ Below base w w' := by
  have HST := Lib.hid (stillInls_any w base g m ls ws h hm hm2 hmx (fun i r s h1 h2 => by
    obtain ⟨e1, e2⟩ := hR i r s h1 h2
    have := hsz r (List.mem_of_getElem? h1)
    exact ⟨e1, by omega, (hT.at_ h1).reads, e2⟩))
  have HBK := Lib.hid (fun W (b : Below w.heap.size w W) => h.below b (Nat.le_refl _))
  have HT := Lib.hid hT
  have HM := Lib.hid hm
  have HSZ := Lib.hid hsz
  obtain ⟨_, A0, c0, A9, c9, hB, _, _, _⟩ := h
  clear hm hm2 hsz hR hT
  have st0 : True := trivial
  go_enter Try.func17, Try.ntmps17
  go_wp2_with (first
    | (go_at_call 41; refine HST.out.mono ?_; rintro e w1 ⟨rfl, b1⟩; have hB1 := hB.below b1 hB.lt; have hBk1 := HBK.out w1 b1; have hT1 := HT.out.below b1 (Nat.le_refl _); have hz1 := b1.size; have bb1 := b1.mono hbw)
    | (go_at_call 50; refine (putInls_any _ base g m ls ws (by exact hBk1) (by exact hT1) HM.out hmx HSZ.out (by omega)).mono ?_; rintro e w2 ⟨rfl, rs, hMK, hT2, hBk2, b2, hz2⟩; have bb2 := bb1.trans b2; have hBk2 := hBk2.marked hMK HM.out; have HMK := Lib.hid hMK; clear hMK; have HQ := Lib.hid hBk2; obtain ⟨_, A1, c1, A2, c2, hB2, hO2, _, _⟩ := hBk2)
    | (go_at_call 57; refine (growInls_any _ base g m rs ws HQ.out (by exact hT2) (by rw [HMK.out.1]; exact HM.out) hmx (HMK.out.size HM.out HSZ.out) (HMK.out.marks HM.out) (by omega)).mono ?_; rintro e w3 ⟨A3, c3, os, rfl, hO3, hTo3, hTr3, hBk3, hol, hxs, b3, hz3⟩; have bb3 := bb2.trans b3; have HOL := Lib.hid hol; have HXS := Lib.hid hxs; clear hol hxs; obtain ⟨_, A4, c4, A5, c5, hB3, hO4, _, _⟩ := hBk3; have v0 : w3.cell? ⟨g, 0, none⟩ = some (.slice none 0 0) := hB3.cell 0; have v2 : w3.cell? ⟨g, 0 + 2, none⟩ = some (.slice none 0 0) := hB3.cell 2; have v4 : w3.cell? ⟨g, 0 + 4, none⟩ = some (.slice none 0 0) := hB3.cell 4)
    | (go_at_call 38; refine (stillTexts_nil g _ (by first | exact hB1.cell 0 | exact hB.cell 0)).mono ?_; rintro e wx ⟨rfl, rfl⟩)
    | (go_at_call 47; refine (putTexts_nil g _ (by first | exact hB2.cell 0 | exact hB1.cell 0)).mono ?_; rintro e wx ⟨rfl, rfl⟩)
    | (go_at_call 54; refine (growTexts_nil g _ (by first | exact hB3.cell 0 | exact hB2.cell 0)).mono ?_; rintro e wx ⟨rfl, rfl⟩)
    | (go_at_call 62; refine (markedTexts_nil _).mono ?_; rintro e wx ⟨rfl, rfl⟩)
    | (go_at_call 40; refine (stillBlocks_nil g _ (by first | exact hB1.cell 4 | exact hB.cell 4)).mono ?_; rintro e wx ⟨rfl, rfl⟩)
    | (go_at_call 49; refine (putBlocks_nil g _ (by first | exact hB2.cell 4 | exact hB1.cell 4)).mono ?_; rintro e wx ⟨rfl, rfl⟩)
    | (go_at_call 56; refine (growBlocks_nil g _ (by first | exact hB3.cell 4 | exact hB2.cell 4)).mono ?_; rintro e wx ⟨rfl, rfl⟩)
    | (go_at_call 64; refine (markedBlocks_nil _).mono ?_; rintro e wx ⟨rfl, rfl⟩)
    | (go_at_call 39; refine (stillInts_nil g _ (by first | exact hB1.cell 2 | exact hB.cell 2)).mono ?_; rintro e wx ⟨rfl, rfl⟩)
    | (go_at_call 48; refine (putInts_nil g _ (by first | exact hB2.cell 2 | exact hB1.cell 2)).mono ?_; rintro e wx ⟨rfl, rfl⟩)
    | (go_at_call 55; refine (growInts_nil g _ (by first | exact hB3.cell 2 | exact hB2.cell 2)).mono ?_; rintro e wx ⟨rfl, rfl⟩)
    | (go_at_call 63; refine (markedInts_nil _).mono ?_; rintro e wx ⟨rfl, rfl⟩)
    | (go_at_call 42; refine (stillParts_nil g _ (by first | exact hB1.cell 8 | exact hB.cell 8)).mono ?_; rintro e wx ⟨rfl, rfl⟩)
    | (go_at_call 46; refine (putParts_nil g _ (by first | exact hB2.cell 8 | exact hB1.cell 8)).mono ?_; rintro e wx ⟨rfl, rfl⟩)
    | (go_at_call 58; refine (growParts_nil g _ (by first | exact hB3.cell 8 | exact hB2.cell 8)).mono ?_; rintro e wx ⟨rfl, rfl⟩)
    | (go_at_call 66; refine (markedParts_nil _).mono ?_; rintro e wx ⟨rfl, rfl⟩)
    | (go_at_call 43; refine (stillDefs_nil g _ (by first | exact hB1.cell 10 | exact hB.cell 10)).mono ?_; rintro e wx ⟨rfl, rfl⟩)
    | (go_at_call 51; refine (putDefs_nil g _ (by first | exact hB2.cell 10 | exact hB1.cell 10)).mono ?_; rintro e wx ⟨rfl, rfl⟩)
    | (go_at_call 59; refine (growDefs_nil g _ (by first | exact hB3.cell 10 | exact hB2.cell 10)).mono ?_; rintro e wx ⟨rfl, rfl⟩)
    | (go_at_call 67; refine (markedDefs_nil _).mono ?_; rintro e wx ⟨rfl, rfl⟩)
    | (go_at_call 44; refine (stillSecs_nil g _ (by first | exact hB1.cell 12 | exact hB.cell 12)).mono ?_; rintro e wx ⟨rfl, rfl⟩)
    | (go_at_call 52; refine (putSecs_nil g _ (by first | exact hB2.cell 12 | exact hB1.cell 12)).mono ?_; rintro e wx ⟨rfl, rfl⟩)
    | (go_at_call 60; refine (growSecs_nil g _ (by first | exact hB3.cell 12 | exact hB2.cell 12)).mono ?_; rintro e wx ⟨rfl, rfl⟩)
    | (go_at_call 68; refine (markedSecs_nil _).mono ?_; rintro e wx ⟨rfl, rfl⟩)
    | (go_at_call 45; refine (stillDiags_nil g _ (by first | exact hB1.cell 14 | exact hB.cell 14)).mono ?_; rintro e wx ⟨rfl, rfl⟩)
    | (go_at_call 53; refine (putDiags_nil g _ (by first | exact hB2.cell 14 | exact hB1.cell 14)).mono ?_; rintro e wx ⟨rfl, rfl⟩)
    | (go_at_call 61; refine (growDiags_nil g _ (by first | exact hB3.cell 14 | exact hB2.cell 14)).mono ?_; rintro e wx ⟨rfl, rfl⟩)
    | (go_at_call 69; refine (markedDiags_nil _).mono ?_; rintro e wx ⟨rfl, rfl⟩)
    | (have st1 := st0; clear st0; go_at_call 65; refine (markedInls_any _ base _ m c3 A3 os hO3.reads (Nat.le_refl _) hTo3 HOL.out hmx HXS.out).mono ?_; rintro e w4 ⟨rfl, b4⟩; have bb4 := bb3.trans (b4.mono (by omega)); have hz4 := b4.size; have hB4 := hB3.below b4 hB3.lt; have hO5 := hO4.below b4 (Nat.le_refl _); have hTr4 := hTr3.below b4 (Nat.le_refl _); have y2 : w4.cell? ⟨g, 0 + 6, none⟩ = some (.slice A4 rs.length c4) := hB4.cell 6; have y0 : w4.cell? ⟨g, 0, none⟩ = some (.slice none 0 0) := hB4.cell 0; have y4 : w4.cell? ⟨g, 0 + 4, none⟩ = some (.slice none 0 0) := hB4.cell 4; have y6 : w4.cell? ⟨g, 0 + 2, none⟩ = some (.slice none 0 0) := hB4.cell 2; have y8 : w4.cell? ⟨g, 0 + 8, none⟩ = some (.slice none 0 0) := hB4.cell 8; have y10 : w4.cell? ⟨g, 0 + 10, none⟩ = some (.slice none 0 0) := hB4.cell 10; have y12 : w4.cell? ⟨g, 0 + 12, none⟩ = some (.slice none 0 0) := hB4.cell 12; have y14 : w4.cell? ⟨g, 0 + 14, none⟩ = some (.slice none 0 0) := hB4.cell 14)
    | (have st2 := st1; clear st1; go_at_call 65; refine (markedInls_any _ base _ rs.length c4 A4 rs hO5.reads (Nat.le_refl _) hTr4 rfl (by rw [HMK.out.1, HM.out]; exact hmx) (HMK.out.marks6 HM.out HSZ.out)).mono ?_; rintro e w5 ⟨rfl, b5⟩; have bb5 := bb4.trans (b5.mono (by omega)); have hB5 := hB4.below b5 hB4.lt; have x2 : w5.cell? ⟨g, 0 + 6, none⟩ = some (.slice A4 rs.length c4) := hB5.cell 6; have x0 : w5.cell? ⟨g, 0, none⟩ = some (.slice none 0 0) := hB5.cell 0; have x4 : w5.cell? ⟨g, 0 + 4, none⟩ = some (.slice none 0 0) := hB5.cell 4; have x6 : w5.cell? ⟨g, 0 + 2, none⟩ = some (.slice none 0 0) := hB5.cell 2; have x8 : w5.cell? ⟨g, 0 + 8, none⟩ = some (.slice none 0 0) := hB5.cell 8; have x10 : w5.cell? ⟨g, 0 + 10, none⟩ = some (.slice none 0 0) := hB5.cell 10; have x12 : w5.cell? ⟨g, 0 + 12, none⟩ = some (.slice none 0 0) := hB5.cell 12; have x14 : w5.cell? ⟨g, 0 + 14, none⟩ = some (.slice none 0 0) := hB5.cell 14))
  go_ret
  exact ⟨rfl, bb5⟩
end Go.Proofs.Ytfdfpimilmhhoaa
