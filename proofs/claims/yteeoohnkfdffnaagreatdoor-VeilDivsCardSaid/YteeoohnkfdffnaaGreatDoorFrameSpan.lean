/-
  frame.span: its contract.
-/
import Derived.Test.YteeoohnkfdffnaaGreatDoorGC
import Derived.Laws.ResultCell
namespace Go.Proofs.YteeoohnkfdffnaaGreatDoor
open Go.RowKit

/-- the span with which a text begins -/
def spanT (l : List UInt8) : Option (List UInt8 × List UInt8) :=
  if Lib.hasPrefix l [123, 124] then
    if (Lib.cut (l.drop 2) [58]).2.2 && labelT (Lib.cut (l.drop 2) [58]).1 then
      if (Lib.cut (Lib.cut (l.drop 2) [58]).2.1 [124, 125]).2.2 then some ((Lib.cut (l.drop 2) [58]).1, (Lib.cut (Lib.cut (l.drop 2) [58]).2.1 [124, 125]).1) else none
    else none
  else none
def spanV : Option (List UInt8 × List UInt8) → Value
  | none => .tuple #[.agg #[.bool false, .string ⟨#[]⟩, .string ⟨#[]⟩], .int .i64 0]
  | some (a, t) => .tuple #[.agg #[.bool true, .string (S a), .string (S t)], .int .i64 ((a.length + t.length + 5 : Nat) : Int)]

theorem cut_le (s p : List UInt8) : (Lib.cut s p).1.length ≤ s.length ∧ (Lib.cut s p).2.1.length ≤ s.length := by
  unfold Lib.cut
  split
  · simp; exact Nat.min_le_right _ _
  · simp
theorem Glb.drewN {w : World} (h : Glb w) (n : Nat) : Glb (w.drewN n) := h

theorem cut_any (s : List UInt8) (sep : ByteArray) (w : World) (hg : Glb w) (hs : s.length < 4294967281) :
    Calls Tryz.prog 106 #[.string (S s), .string sep] w fun e w' => e = .returned (.tuple #[.string (S (Lib.cut s (L sep)).1), .string (S (Lib.cut s (L sep)).2.1), .bool (Lib.cut s (L sep)).2.2]) ∧ Below w.heap.size w w' := by
  obtain ⟨m, hm⟩ := hg
  refine (Tryz.strings_Cut (S s) sep m w (by simpa [S] using hs) hm).mono ?_
  rintro e w1 ⟨rfl, n, rfl⟩
  exact ⟨rfl, below_drewN' (Below.refl _ _) _⟩

set_option maxHeartbeats 2000000 in
set_option maxRecDepth 100000 in
theorem span_any (s : ByteArray) (w : World) (hg : Glb w) (hs : s.size < 4294967281) :
    Calls Tryz.prog 81 #[.string s] w fun e w' => e = .returned (spanV (spanT (L s))) ∧ Below w.heap.size w w' := by
  have bA : Below w.heap.size w (w.alloc (.cells #[.bool false, .string ⟨#[]⟩, .string ⟨#[]⟩] 84)) := (Below.refl _ _).alloc (Nat.le_refl _) _
  have B0 : Blk (w.alloc (.cells #[.bool false, .string ⟨#[]⟩, .string ⟨#[]⟩] 84)) w.heap.size 84 #[.bool false, .string ⟨#[]⟩, .string ⟨#[]⟩] := Blk.new _ _ _
  have hgA := hg.below bA
  have hls : (L s).length = s.size := length_L s
  have h1 : Hid (∀ w, Calls Tryz.prog 90 #[.string s, .string ⟨#[123, 124]⟩] w fun e w' => e = .returned (.tuple #[.string (S (Lib.trimPrefix (L s) [123, 124])), .bool (Lib.hasPrefix (L s) [123, 124])]) ∧ w' = w) := Lib.hid fun w => Tryz.strings_CutPrefix s ⟨#[123, 124]⟩ w
  obtain ⟨V, hV⟩ : ∃ V, spanT (L s) = V := ⟨_, rfl⟩
  rw [hV]
  unfold spanT at hV
  generalize L s = l at *
  have HV := Lib.hid hV
  clear hV
  cases hp : Lib.hasPrefix l [123, 124]
  · rw [hp] at h1
    go_enter Tryz.func81, Tryz.ntmps81
    go_wp2_with fail
    refine (h1.out _).mono ?_
    rintro e w1 ⟨rfl, rfl⟩
    have d0 := B0.cell 0
    have d1 := B0.cell 1
    have d2 := B0.cell 2
    have f0 := B0.frozen 0
    have f1 := B0.frozen 1
    have f2 := B0.frozen 2
    have bS := ((bA.setCell (p := ⟨w.heap.size, 0, none⟩) (Nat.le_refl _) (.bool false)).setCell (p := ⟨w.heap.size, 1, none⟩) (Nat.le_refl _) (.string ⟨#[]⟩)).setCell (p := ⟨w.heap.size, 2, none⟩) (Nat.le_refl _) (.string ⟨#[]⟩)
    generalize w.alloc (.cells #[.bool false, .string ⟨#[]⟩, .string ⟨#[]⟩] 84) = w1 at *
    go_wp2_with fail
    try simp only [Exit.inBlock, Exit.then]
    refine bodyPost_ret (v := spanV none) ?_ rfl ?_
    · rw [results_cell_tmp rfl]
      unfold spanV
      go_simp
    · exact ⟨by rw [← HV.out, hp]; rfl, bS⟩
  · have htp : Lib.trimPrefix l [123, 124] = l.drop 2 := by unfold Lib.trimPrefix; rw [hp]; rfl
    rw [hp, htp] at h1
    have HV2 := HV.out
    rw [hp, if_pos rfl] at HV2
    clear HV
    have hr : (l.drop 2).length ≤ l.length := by simp
    generalize l.drop 2 = r at *
    have hc1 := cut_le r [58]
    have h2 : Hid (∀ w, Glb w → Calls Tryz.prog 106 #[.string (S r), .string ⟨#[58]⟩] w fun e w' => e = .returned (.tuple #[.string (S (Lib.cut r [58]).1), .string (S (Lib.cut r [58]).2.1), .bool (Lib.cut r [58]).2.2]) ∧ Below w.heap.size w w') := Lib.hid fun w hg => cut_any r ⟨#[58]⟩ w hg (by omega)
    obtain ⟨⟨nm, tx, is⟩, hc⟩ : ∃ y, Lib.cut r [58] = y := ⟨_, rfl⟩
    rw [hc] at h2 hc1 HV2
    simp only at h2 hc1 HV2
    have HV := Lib.hid HV2
    clear HV2
    have hc2 := cut_le tx [124, 125]
    have h3 : Hid (∀ w, Glb w → Calls Tryz.prog 106 #[.string (S tx), .string ⟨#[124, 125]⟩] w fun e w' => e = .returned (.tuple #[.string (S (Lib.cut tx [124, 125]).1), .string (S (Lib.cut tx [124, 125]).2.1), .bool (Lib.cut tx [124, 125]).2.2]) ∧ Below w.heap.size w w') := Lib.hid fun w hg => cut_any tx ⟨#[124, 125]⟩ w hg (by omega)
    obtain ⟨⟨tt, rest, is2⟩, hcc⟩ : ∃ y, Lib.cut tx [124, 125] = y := ⟨_, rfl⟩
    have HV3 := HV.out
    rw [hcc] at h3 hc2 HV3
    simp only at h3 hc2 HV3
    have HV := Lib.hid HV3
    clear HV3 hcc
    have h4 : Hid (∀ w, Calls Tryz.prog 78 #[.string (S nm)] w fun e w' => e = .returned (.bool (labelT nm)) ∧ Below w.heap.size w w') := Lib.hid fun w => by
      have := label_any (S nm) w (by simp [S]; omega)
      rwa [L_S] at this
    have HNM := Lib.hid hc1.1
    have hnl : (S nm).size = nm.length := by simp [S]
    clear hc
    go_enter Tryz.func81, Tryz.ntmps81
    go_wp2_with fail
    refine (h1.out _).mono ?_
    rintro e w1 ⟨rfl, rfl⟩
    go_wp2_with fail
    refine (h2.out _ hgA).mono ?_
    rintro e w1 ⟨rfl, b1⟩
    have B1 := B0.below b1 B0.lt
    have bb1 := bA.trans (b1.mono (by have := B0.lt; omega))
    clear h1 h2 B0 bA b1
    cases is
    · skip
      have d0 := B1.cell 0
      have d1 := B1.cell 1
      have d2 := B1.cell 2
      have f0 := B1.frozen 0
      have f1 := B1.frozen 1
      have f2 := B1.frozen 2
      have bS := ((bb1.setCell (p := ⟨w.heap.size, 0, none⟩) (Nat.le_refl _) (.bool false)).setCell (p := ⟨w.heap.size, 1, none⟩) (Nat.le_refl _) (.string ⟨#[]⟩)).setCell (p := ⟨w.heap.size, 2, none⟩) (Nat.le_refl _) (.string ⟨#[]⟩)
      go_wp2_with fail
      all_goals
        try simp only [Exit.inBlock, Exit.then]
        refine bodyPost_ret (v := spanV none) ?_ rfl ?_
        · rw [results_cell_tmp rfl]
          unfold spanV
          go_simp
        · exact ⟨by rw [← HV.out]; rfl, bS⟩
    · cases hlb : labelT nm
      · rw [hlb] at h4
        have HLB := Lib.hid hlb
        clear hlb
        go_wp2_with fail
        refine (h4.out _).mono ?_
        rintro e w2 ⟨rfl, b2⟩
        have B2 := B1.below b2 B1.lt
        have bb2 := bb1.trans (b2.mono bb1.size)
        clear B1 h4
        have d0 := B2.cell 0
        have d1 := B2.cell 1
        have d2 := B2.cell 2
        have f0 := B2.frozen 0
        have f1 := B2.frozen 1
        have f2 := B2.frozen 2
        have bS := ((bb2.setCell (p := ⟨w.heap.size, 0, none⟩) (Nat.le_refl _) (.bool false)).setCell (p := ⟨w.heap.size, 1, none⟩) (Nat.le_refl _) (.string ⟨#[]⟩)).setCell (p := ⟨w.heap.size, 2, none⟩) (Nat.le_refl _) (.string ⟨#[]⟩)
        go_wp2_with fail
        all_goals
          try simp only [Exit.inBlock, Exit.then]
          refine bodyPost_ret (v := spanV none) ?_ rfl ?_
          · rw [results_cell_tmp rfl]
            unfold spanV
            go_simp
          · exact ⟨by rw [← HV.out, HLB.out]; rfl, bS⟩
      · rw [hlb] at h4
        have HLB := Lib.hid hlb
        clear hlb
        go_wp2_with fail
        refine (h4.out _).mono ?_
        rintro e w2 ⟨rfl, b2⟩
        have B2 := B1.below b2 B1.lt
        have bb2 := bb1.trans (b2.mono bb1.size)
        have hg2 := hg.below bb2
        clear B1 h4
        go_wp2_with fail
        refine (h3.out _ hg2).mono ?_
        rintro e w3 ⟨rfl, b3⟩
        have B3 := B2.below b3 B2.lt
        have bb3 := bb2.trans (b3.mono bb2.size)
        clear B2 h3 hg2 b3 b2
        have htl : (S tt).size = tt.length := by simp [S]
        have HT := Lib.hid hc2.1
        have hb1 : nm.length ≤ 4294967281 := by have := HNM.out; omega
        have hb2 : tt.length ≤ 4294967281 := by have := HT.out; have := hc1.2; omega
        clear hc1 hc2 hr
        cases is2
        · skip
          have d0 := B3.cell 0
          have d1 := B3.cell 1
          have d2 := B3.cell 2
          have f0 := B3.frozen 0
          have f1 := B3.frozen 1
          have f2 := B3.frozen 2
          have bS := ((bb3.setCell (p := ⟨w.heap.size, 0, none⟩) (Nat.le_refl _) (.bool false)).setCell (p := ⟨w.heap.size, 1, none⟩) (Nat.le_refl _) (.string ⟨#[]⟩)).setCell (p := ⟨w.heap.size, 2, none⟩) (Nat.le_refl _) (.string ⟨#[]⟩)
          go_wp2_with fail
          all_goals
            try simp only [Exit.inBlock, Exit.then]
            refine bodyPost_ret (v := spanV none) ?_ rfl ?_
            · rw [results_cell_tmp rfl]
              unfold spanV
              go_simp
            · exact ⟨by rw [← HV.out, HLB.out]; rfl, bS⟩
        · skip
          have d0 := B3.cell 0
          have d1 := B3.cell 1
          have d2 := B3.cell 2
          have f0 := B3.frozen 0
          have f1 := B3.frozen 1
          have f2 := B3.frozen 2
          have bS := ((bb3.setCell (p := ⟨w.heap.size, 0, none⟩) (Nat.le_refl _) (.bool true)).setCell (p := ⟨w.heap.size, 1, none⟩) (Nat.le_refl _) (.string (S nm))).setCell (p := ⟨w.heap.size, 2, none⟩) (Nat.le_refl _) (.string (S tt))
          go_wp2_with fail
          all_goals
            try simp only [Exit.inBlock, Exit.then]
            refine bodyPost_ret (v := spanV (some (nm, tt))) ?_ rfl ?_
            · rw [results_cell_tmp rfl]
              unfold spanV
              go_simp
            · exact ⟨by rw [← HV.out, HLB.out]; rfl, bS⟩
end Go.Proofs.YteeoohnkfdffnaaGreatDoor
