/-
  bowdlerlaw7.VeilTells: its walk.
-/
import Derived.Test.YtgdnphmannbpgaaGreatDoorVeilStart
import Derived.Test.YtgdnphmannbpgaaGreatDoorRefVeil
import Derived.Test.YtgdnphmannbpgaaGreatDoorRefReader
import Derived.Test.YtgdnphmannbpgaaGreatDoorGL
import Derived.Test.YtgdnphmannbpgaaGreatDoorGS
import Derived.Test.YtgdnphmannbpgaaGreatDoorGD
namespace Go.Proofs.YtgdnphmannbpgaaGreatDoor
open Go.RowKit
set_option linter.unusedVariables false

theorem nilSees_any (w : World) : Calls Tryz.prog 8 #[.pointer none, .slice none 0 0] w fun e w' => e = .returned (.bool false) ∧ w' = w := by
  go_enter Tryz.func8, Tryz.ntmps8
  go_wp2_with fail
  go_ret
  exact ⟨rfl, rfl⟩
theorem nilUnknown_any (x : ByteArray) (w : World) : Calls Tryz.prog 9 #[.pointer none, .string x] w fun e w' => e = .returned (.bool false) ∧ w' = w := by
  go_enter Tryz.func9, Tryz.ntmps9
  go_wp2_with fail
  go_ret
  exact ⟨rfl, rfl⟩
theorem nilVeil_any (x : ByteArray) (w : World) : Calls Tryz.prog 10 #[.pointer none, .string x] w fun e w' => e = .returned (.string ⟨#[]⟩) ∧ w' = w := by
  go_enter Tryz.func10, Tryz.ntmps10
  go_wp2_with fail
  go_ret
  exact ⟨rfl, rfl⟩
theorem nilLine_any (x : ByteArray) (w : World) : Calls Tryz.prog 11 #[.pointer none, .string x, .slice none 0 0] w fun e w' => e = .returned (.string ⟨#[]⟩) ∧ w' = w := by
  go_enter Tryz.func11, Tryz.ntmps11
  go_wp2_with fail
  go_ret
  exact ⟨rfl, rfl⟩
theorem newV_none' {xs : List ByteArray} {ps : List (Int × Int)} {x : ByteArray} {k : Int} (h : newV xs ps x = (k, none)) : k = 1 ∨ k = 2 := by
  unfold newV at h
  split at h
  · split at h
    · simp at h; omega
    · split at h
      · simp at h; omega
      · simp at h
  · simp at h; omega

set_option maxHeartbeats 8000000 in
set_option maxRecDepth 100000 in
theorem veilTells_walk (A : Option Addr) (n c : Nat) (xs : List ByteArray) (B : Option Addr) (n2 c2 : Nat) (ps : List (Int × Int)) (who : ByteArray) (C : Option Addr) (n3 c3 : Nat) (ls : List ByteArray) (l doc : ByteArray) (w : World) (hg : Glb w) (hT : Tabs w)
    (hx : IsTexts w A n c xs) (hp : IsPairs w B n2 c2 ps) (_ : who.size ≤ 140737488351232) (hl : IsTexts w C n3 c3 ls) (_ : l.size ≤ 140737488351232) (_ : doc.size ≤ 140737488351232) :
    Calls Tryz.prog 3 #[.slice A n c, .slice B n2 c2, .string who, .slice C n3 c3, .string l, .string doc] w fun e w' => e = .returned (.bool true) ∧ Below w.heap.size w w' := by
  have HG := Lib.hid hg
  obtain ⟨rA, hnc, hcm, hsz⟩ := hx
  obtain ⟨rB, hnc2, hcm2⟩ := hp
  obtain ⟨rC, hnc3, hcm3, _⟩ := hl
  unfold maxLen at hcm hcm2 hcm3
  have HSZ : Hid (∀ x ∈ xs, x.size ≤ 9223372036854775807) := Lib.hid (fun x hx => by have := hsz x hx; unfold maxLen at this; omega)
  have HLN : Hid (ls.length = n3) := Lib.hid (by have := rC.1; simpa using this)
  clear hsz
  have HAL := Lib.hid (alive7_any w hg)
  have HALN := Lib.hid (fun (W : World) (b : Below w.heap.size w W) => alive7_any W (HG.out.below b))
  by_cases h1 : 10 < n
  · go_enter Tryz.func3, Tryz.ntmps3
    go_wp2_with (go_at_call 4; refine HAL.out.mono ?_; rintro e w1 ⟨rfl, b1⟩)
    go_ret
    exact ⟨rfl, b1⟩
  by_cases h2 : 30 < n2
  · go_enter Tryz.func3, Tryz.ntmps3
    go_wp2_with (go_at_call 4; refine HAL.out.mono ?_; rintro e w1 ⟨rfl, b1⟩)
    go_ret
    exact ⟨rfl, b1⟩
  by_cases h3 : 10 < n3
  · go_enter Tryz.func3, Tryz.ntmps3
    go_wp2_with (go_at_call 4; refine HAL.out.mono ?_; rintro e w1 ⟨rfl, b1⟩)
    go_ret
    exact ⟨rfl, b1⟩
  by_cases h4 : 200 < l.size
  · go_enter Tryz.func3, Tryz.ntmps3
    go_wp2_with (go_at_call 4; refine HAL.out.mono ?_; rintro e w1 ⟨rfl, b1⟩)
    go_ret
    exact ⟨rfl, b1⟩
  by_cases h5 : 1000 < doc.size
  · go_enter Tryz.func3, Tryz.ntmps3
    go_wp2_with (go_at_call 4; refine HAL.out.mono ?_; rintro e w1 ⟨rfl, b1⟩)
    go_ret
    exact ⟨rfl, b1⟩
  have HNW := Lib.hid (fun (W : World) (b : Below w.heap.size w W) => veilNew_any A B n c n2 c2 w.heap.size xs ps who W (rA.below b) (rB.below b) b.size (by omega) (by omega) HSZ.out)
  have HRT := Lib.hid (fun (W : World) (b : Below w.heap.size w W) => right_any A B n c n2 c2 w.heap.size xs ps W (rA.below b) (rB.below b) b.size (by omega) (by omega) HSZ.out)
  obtain ⟨V, hV⟩ : ∃ V, newV xs ps who = V := ⟨_, rfl⟩
  have HV := Lib.hid hV
  rw [hV] at HNW
  cases hrt : rightT xs ps
  · -- no policy
    rw [hrt] at HRT
    have hV1 : V = (1, none) := by rw [← hV]; unfold newV; rw [if_neg (by rw [hrt]; decide)]
    subst hV1
    have HN2 := Lib.hid (fun (W : World) (b : Below w.heap.size w W) => (HNW.out W b).mono (R' := fun e w' => e = .returned (.tuple #[.pointer none, .int .i64 1]) ∧ Below W.heap.size W w') (by
      rintro e w' ⟨b3, ⟨k, h1, h2⟩ | ⟨s, g, h1, _⟩⟩
      · simp only [Prod.mk.injEq, and_true] at h1
        subst h1
        exact ⟨h2, b3⟩
      · simp at h1))
    clear hV hrt
    go_enter Tryz.func3, Tryz.ntmps3
    go_upto_region 4 with (go_at_call 4; refine HAL.out.mono ?_; rintro e w1 ⟨rfl, b1⟩)
    have bA := b1.alloc b1.size (.cells #[.slice A n c, .slice B n2 c2] 26)
    have B9 := Blk.new w1 26 #[.slice A n c, .slice B n2 c2]
    have hz : w1.heap.size < (w1.alloc (.cells #[.slice A n c, .slice B n2 c2] 26)).heap.size := by simp
    obtain ⟨gp, hgp⟩ : ∃ gp, w1.heap.size = gp := ⟨_, rfl⟩
    rw [hgp] at B9 hz
    simp only [hgp]
    clear hgp
    generalize w1.alloc (.cells #[.slice A n c, .slice B n2 c2] 26) = w2 at *
    have k0 := B9.cell 0
    have k1 : w2.cell? ⟨gp, 0 + 1, none⟩ = some (.slice B n2 c2) := B9.cell 1
    go_wp2_with (first
      | (go_at_call 5; refine (HN2.out _ bA).mono ?_; rintro e w3 ⟨rfl, b3⟩
         have bb3 := bA.trans (b3.mono bA.size)
         have B10 := B9.below b3 hz
         have j0 := B10.cell 0
         have j1 : w3.cell? ⟨gp, 0 + 1, none⟩ = some (.slice B n2 c2) := B10.cell 1)
      | (go_at_call 6; refine (HRT.out _ bb3).mono ?_; rintro e w4 ⟨rfl, b4⟩))
    go_ret
    exact ⟨rfl, bb3.trans (b4.mono bb3.size)⟩
  have HRD := Lib.hid (fun (W : World) (b : Below w.heap.size w W) => refReader_any A B n c n2 c2 w.heap.size xs ps who W (rA.below b) (rB.below b) b.size (by omega) hrt)
  have hrok := right_ok hrt
  have HROK := Lib.hid hrok
  rw [hrt] at HRT
  rw [hV] at HRD
  clear hV hrt hrok
  rcases V with ⟨kv, _ | s⟩
  · -- nobody reads
    have HN2 := Lib.hid (fun (W : World) (b : Below w.heap.size w W) => (HNW.out W b).mono (R' := fun e w' => e = .returned (.tuple #[.pointer none, .int .i64 kv]) ∧ Below W.heap.size W w') (by
      rintro e w' ⟨b3, ⟨k, h1, h2⟩ | ⟨s, g, h1, _⟩⟩
      · simp only [Prod.mk.injEq, and_true] at h1
        subst h1
        exact ⟨h2, b3⟩
      · simp at h1))
    have HR2 := Lib.hid (fun (W : World) (b : Below w.heap.size w W) => (HRD.out W b).mono (R' := fun e w' => e = .returned (.tuple #[.pointer none, .int .i64 kv]) ∧ Below W.heap.size W w') (by
      rintro e w' ⟨b3, ⟨k, h1, h2⟩ | ⟨s, g, h1, _⟩⟩
      · simp only [Prod.mk.injEq, and_true] at h1
        subst h1
        exact ⟨h2, b3⟩
      · simp at h1))
    have hk0 := newV_none' HV.out
    clear HNW HRD HV
    have hq : (kv != kv) = false := by simp
    go_enter Tryz.func3, Tryz.ntmps3
    go_upto_region 4 with (go_at_call 4; refine HAL.out.mono ?_; rintro e w1 ⟨rfl, b1⟩)
    have bA := b1.alloc b1.size (.cells #[.slice A n c, .slice B n2 c2] 26)
    have B9 := Blk.new w1 26 #[.slice A n c, .slice B n2 c2]
    have hz : w1.heap.size < (w1.alloc (.cells #[.slice A n c, .slice B n2 c2] 26)).heap.size := by simp
    obtain ⟨gp, hgp⟩ : ∃ gp, w1.heap.size = gp := ⟨_, rfl⟩
    rw [hgp] at B9 hz
    simp only [hgp]
    clear hgp
    generalize w1.alloc (.cells #[.slice A n c, .slice B n2 c2] 26) = w2 at *
    have k0 := B9.cell 0
    have k1 : w2.cell? ⟨gp, 0 + 1, none⟩ = some (.slice B n2 c2) := B9.cell 1
    clear hk0
    go_wp2_with (first
      | (go_at_call 5; refine (HN2.out _ bA).mono ?_; rintro e w3 ⟨rfl, b3⟩
         have bb3 := bA.trans (b3.mono bA.size)
         have B10 := B9.below b3 hz
         have j0 := B10.cell 0
         have j1 : w3.cell? ⟨gp, 0 + 1, none⟩ = some (.slice B n2 c2) := B10.cell 1)
      | (go_at_call 6; refine (HRT.out _ bb3).mono ?_; rintro e w4 ⟨rfl, b4⟩
         have bb4 := bb3.trans (b4.mono bb3.size))
      | (go_at_call 7; refine (HR2.out _ bb4).mono ?_; rintro e w5 ⟨rfl, b5⟩
         have bb5 := bb4.trans (b5.mono bb4.size))
      | (go_at_call 8; refine (nilSees_any _).mono ?_; rintro e w6 ⟨rfl, hw⟩; subst w6)
      | (go_at_call 9; refine (nilUnknown_any _ _).mono ?_; rintro e w6 ⟨rfl, hw⟩; subst w6)
      | (go_at_call 10; refine (nilVeil_any _ _).mono ?_; rintro e w6 ⟨rfl, hw⟩; subst w6)
      | (go_at_call 11; refine (nilLine_any _ _).mono ?_; rintro e w6 ⟨rfl, hw⟩; subst w6))
    go_ret
    exact ⟨rfl, bb5⟩
  · -- one who reads
    have hnv := HV.out
    obtain ⟨ok, hnm, rfl, hlat, _⟩ := newV_ok hnv
    have ed : EdgeOk s.lat := newT_edge (by have := HROK.out.1; omega) HROK.out.2.2 hlat ok.lat
    have HN2 := Lib.hid (fun (W : World) (b : Below w.heap.size w W) => (HNW.out W b).mono (R' := fun e w' => ∃ g, e = .returned (.tuple #[.pointer (some ⟨g, 0, none⟩), .int .i64 0]) ∧ SeerR w' w'.heap.size g s ∧ Below W.heap.size W w') (by
      rintro e w' ⟨b3, ⟨k, h1, h2⟩ | ⟨s', g, h1, h2, h3⟩⟩
      · simp at h1
      · simp only [Prod.mk.injEq, Option.some.injEq, true_and] at h1
        subst h1
        exact ⟨g, h2, h3, b3⟩))
    have HR2 := Lib.hid (fun (W : World) (b : Below w.heap.size w W) => (HRD.out W b).mono (R' := fun e w' => ∃ g, e = .returned (.tuple #[.pointer (some ⟨g, 0, none⟩), .int .i64 0]) ∧ RSeerR w' w'.heap.size g s ∧ Below W.heap.size W w') (by
      rintro e w' ⟨b3, ⟨k, h1, h2⟩ | ⟨s', g, h1, h2, h3⟩⟩
      · simp at h1
      · simp only [Prod.mk.injEq, Option.some.injEq, true_and] at h1
        subst h1
        exact ⟨g, h2, h3, b3⟩))
    have HNM := Lib.hid hnm
    clear HNW HRD HV hnv hlat hnm
    go_enter Tryz.func3, Tryz.ntmps3
    go_upto_region 4 with (go_at_call 4; refine HAL.out.mono ?_; rintro e w1 ⟨rfl, b1⟩)
    have bA := b1.alloc b1.size (.cells #[.slice A n c, .slice B n2 c2] 26)
    have B9 := Blk.new w1 26 #[.slice A n c, .slice B n2 c2]
    have hz : w1.heap.size < (w1.alloc (.cells #[.slice A n c, .slice B n2 c2] 26)).heap.size := by simp
    obtain ⟨gp, hgp⟩ : ∃ gp, w1.heap.size = gp := ⟨_, rfl⟩
    rw [hgp] at B9 hz
    simp only [hgp]
    clear hgp
    generalize w1.alloc (.cells #[.slice A n c, .slice B n2 c2] 26) = w2 at *
    have k0 := B9.cell 0
    have k1 : w2.cell? ⟨gp, 0 + 1, none⟩ = some (.slice B n2 c2) := B9.cell 1
    go_upto_region 15 with (first
      | (go_at_call 5; refine (HN2.out _ bA).mono ?_; rintro e w3 ⟨g, rfl, hS, b3⟩
         have bb3 := bA.trans (b3.mono bA.size)
         have B10 := B9.below b3 hz
         have j0 := B10.cell 0
         have j1 : w3.cell? ⟨gp, 0 + 1, none⟩ = some (.slice B n2 c2) := B10.cell 1)
      | (go_at_call 6; refine (HRT.out _ bb3).mono ?_; rintro e w4 ⟨rfl, b4⟩
         have bb4 := bb3.trans (b4.mono bb3.size))
      | (go_at_call 7; refine (HR2.out _ bb4).mono ?_; rintro e w5 ⟨g2, rfl, hR, b5⟩
         have bb5 := bb4.trans (b5.mono bb4.size))
      | (go_at_call 8; refine (nilSees_any _).mono ?_; rintro e w6 ⟨rfl, hw⟩; subst w6)
      | (go_at_call 9; refine (nilUnknown_any _ _).mono ?_; rintro e w6 ⟨rfl, hw⟩; subst w6)
      | (go_at_call 10; refine (nilVeil_any _ _).mono ?_; rintro e w6 ⟨rfl, hw⟩; subst w6)
      | (go_at_call 11; refine (nilLine_any _ _).mono ?_; rintro e w6 ⟨rfl, hw⟩; subst w6))
    have KT := Lib.hid ((kit_of (HG.out.below bb3) hS ok).up (b4.trans (b5.mono b4.size)))
    have HRS := Lib.hid hR
    have HT5 := Lib.hid (hT.below bb5)
    have rC5 := (rC.below bb5).up bb5.size
    have rA5 := Lib.hid ((rA.below bb5).up bb5.size)
    have z5 := bb5.size
    clear hS hR B9 B10 k0 k1 j0 j1 b3 b4 b5 bb3 bb4 bA b1 hz HN2 HR2 HRT rA rB rC
    go_wp2_with fail
    go_loopw [105] (fun s105 wr => ∃ k : Nat, k ≤ n3 ∧ s105 = .int .i64 (k : Int) ∧ Below w5.heap.size w5 wr) (fun s105 _ => n3 - (intOf s105).toNat)
    case atStart => exact ⟨0, Nat.zero_le _, rfl, Below.refl _ _⟩
    case round =>
      obtain ⟨k, hk, rfl, hb⟩ := hrel
      have hzr := hb.size
      have rCr := (rC5.below hb).up hb.size
      by_cases hlt : k < n3
      · obtain ⟨ad, u, rfl, _, hx0, hc⟩ := rCr.at_ hlt
        obtain ⟨y, hy, rfl⟩ : ∃ y, ls[k]? = some y ∧ Value.string y = u := by simpa using hx0
        have HU := Lib.hid (KT.out.unk wr y hb)
        rw [HNM.out] at HU
        have HA := Lib.hid (fun (W : World) (b : Below w5.heap.size w5 W) => refAt_any A n c w5.heap.size xs y W (rA5.out.below b) (by omega))
        clear hy hx0
        by_cases hi : idxT xs y < 0
        · have d1 : decide (idxT xs y < 0) = true := decide_eq_true hi
          rw [d1] at HU
          generalize idxT xs y = ix at *
          go_wp2_with (first
            | (go_at_call 9; refine HU.out.mono ?_; rintro e w6 ⟨rfl, b6⟩
               have hb6 := hb.trans (b6.mono hzr))
            | (go_at_call 12; refine (HA.out _ hb6).mono ?_; rintro e w7 ⟨rfl, hw⟩; subst w7))
          go_roundw
          case rel => exact ⟨k + 1, by omega, by go_num, hb6⟩
          case measure => simp [intOf]; omega
        · have d1 : decide (idxT xs y < 0) = false := decide_eq_false hi
          rw [d1] at HU
          generalize idxT xs y = ix at *
          go_wp2_with (first
            | (go_at_call 9; refine HU.out.mono ?_; rintro e w6 ⟨rfl, b6⟩
               have hb6 := hb.trans (b6.mono hzr))
            | (go_at_call 12; refine (HA.out _ hb6).mono ?_; rintro e w7 ⟨rfl, hw⟩; subst w7))
          go_roundw
          case rel => exact ⟨k + 1, by omega, by go_num, hb6⟩
          case measure => simp [intOf]; omega
      · have hkn : k = n3 := by omega
        subst hkn
        obtain ⟨sv, hsv⟩ : ∃ sv, seesT s ls = sv := ⟨_, rfl⟩
        obtain ⟨lv, hlv⟩ : ∃ lv, lineT s l ls = lv := ⟨_, rfl⟩
        obtain ⟨vv, hvv⟩ : ∃ vv, veilT s doc = vv := ⟨_, rfl⟩
        have HPS := Lib.hid (fun (W : World) (D : Option Addr) (d : Nat) (b : Below w5.heap.size w5 W) (r : Reads W W.heap.size 1 D k (txCells ls)) => KT.out.sees W D k d ls b r (by omega))
        have HRSe := Lib.hid (fun (W : World) (b : Below w5.heap.size w5 W) => refSees_at g2 w5.heap.size s C k c3 ls W (HRS.out.below b) ok ed b.size ((rC5.below b).up b.size) (by omega))
        have HPL := Lib.hid (fun (W : World) (D : Option Addr) (d : Nat) (b : Below w5.heap.size w5 W) (r : Reads W W.heap.size 1 D k (txCells ls)) => KT.out.line W l D k d ls b (by omega) r (by omega))
        have HRL := Lib.hid (fun (W : World) (b : Below w5.heap.size w5 W) => refLine_any g2 w5.heap.size s l C k c3 ls W (HRS.out.below b) ok ed b.size ((rC5.below b).up b.size) (by omega) (by omega))
        have HPV := Lib.hid (fun (W : World) (b : Below w5.heap.size w5 W) => KT.out.veil W doc b (by omega))
        have HRV := Lib.hid (fun (W : World) (b : Below w5.heap.size w5 W) => refVeil_any g2 w5.heap.size s doc W (HT5.out.below b) (HRS.out.below b) ok ed b.size (by omega))
        rw [hsv] at HPS HRSe
        rw [hlv] at HPL HRL
        rw [hvv] at HPV HRV
        have HLT := Lib.hid (lentTexts_any C k c3 wr.heap.size ls wr rCr (by omega))
        have HRC := Lib.hid rC5
        have q1 : (sv == sv) = true := by simp
        have q2 : (lv == lv) = true := (bytes_same _ _).2 rfl
        have q3 : (vv == vv) = true := (bytes_same _ _).2 rfl
        clear hsv hlv hvv rCr rC5
        go_wp2_with (first
          | (go_at_call 13; refine HLT.out.mono ?_; rintro e w6 ⟨D, d, rfl, hO6, b6⟩
             have hb6 := hb.trans (b6.mono hzr)
             have hrm : Reads w6 w6.heap.size 1 D k (txCells ls) := (by
               have h1 := (hO6.take (m := k) (by omega)).reads
               have h2 : (txCells (ls ++ [markB])).take (k * 1) = txCells ls := (by
                 rw [Nat.mul_one]
                 unfold txCells
                 rw [← List.map_take, List.take_append_of_le_length (by rw [HLN.out]; exact Nat.le_refl _), List.take_of_length_le (by rw [HLN.out]; exact Nat.le_refl _)])
               rw [h2] at h1
               exact h1))
          | (go_at_call 8; refine (HPS.out w6 D d hb6 hrm).mono ?_; rintro e w7 ⟨rfl, b7⟩
             have hb7 := hb6.trans (b7.mono hb6.size)
             have z7 := b7.size)
          | (go_at_call 14; refine (HRSe.out w7 hb7).mono ?_; rintro e w8 ⟨rfl, b8⟩
             have b68 := b7.trans (b8.mono z7)
             have hb8 := hb6.trans (b68.mono hb6.size)
             have hrm8 := (hrm.below b68).up b68.size)
          | (go_at_call 11; refine (HPL.out w8 D d hb8 hrm8).mono ?_; rintro e w9 ⟨rfl, b9⟩
             have hb9 := hb8.trans (b9.mono hb8.size)
             have b69 := b68.trans (b9.mono b68.size))
          | (go_at_call 15; refine (HRL.out w9 hb9).mono ?_; rintro e w10 ⟨rfl, b10⟩
             have hb10 := hb9.trans (b10.mono hb9.size)
             have b610 := b69.trans (b10.mono b69.size)
             have hO10 := hO6.below b610 (Nat.le_refl _))
          | (go_at_call 16; refine (staysTexts_any D C k d c3 w5.heap.size wr.heap.size ls w10 hO10 (HRC.out.below hb10) (by omega)).mono ?_; rintro e w11 ⟨rfl, mq, rfl⟩
             have hb11 := below_drewN' hb10 mq)
          | (go_at_call 10; refine (HPV.out _ hb11).mono ?_; rintro e w12 ⟨rfl, b12⟩
             have hb12 := hb11.trans (b12.mono hb11.size))
          | (go_at_call 17; refine (HRV.out w12 hb12).mono ?_; rintro e w13 ⟨rfl, b13⟩))
        go_ret
        exact ⟨by simp, bb5.trans ((hb12.trans (b13.mono hb12.size)).mono z5)⟩
end Go.Proofs.YtgdnphmannbpgaaGreatDoor
