/-
  bowdlerlaw7.VeilEach: its walk.
-/
import Derived.Test.YteeoohnkfdffnaaGreatDoorVeilStart
import Derived.Test.YteeoohnkfdffnaaGreatDoorFrameL
import Derived.Test.YteeoohnkfdffnaaGreatDoorOpenTexts
import Derived.Test.YteeoohnkfdffnaaGreatDoorOpenPairs
namespace Go.Proofs.YteeoohnkfdffnaaGreatDoor
open Go.RowKit
set_option linter.unusedVariables false

theorem newV_none {xs : List ByteArray} {ps : List (Int × Int)} {x : ByteArray} {k : Int} (h : newV xs ps x = (k, none)) : k = 1 ∨ k = 2 := by
  unfold newV at h
  split at h
  · split at h
    · simp at h; omega
    · split at h
      · simp at h; omega
      · simp at h
  · simp at h; omega

set_option maxHeartbeats 4000000 in
set_option maxRecDepth 100000 in
theorem veilEach_walk (A : Option Addr) (n c : Nat) (xs : List ByteArray) (B : Option Addr) (n2 c2 : Nat) (ps : List (Int × Int)) (who : ByteArray) (C : Option Addr) (n3 c3 : Nat) (ls : List ByteArray) (w : World) (hg : Glb w)
    (hx : IsTexts w A n c xs) (hp : IsPairs w B n2 c2 ps) (_ : who.size ≤ 140737488351232) (hl : IsTexts w C n3 c3 ls) :
    Calls Tryz.prog 10 #[.slice A n c, .slice B n2 c2, .string who, .slice C n3 c3] w fun e w' => e = .returned (.bool true) ∧ Below w.heap.size w w' := by
  have HG := Lib.hid hg
  obtain ⟨rA, hnc, hcm, hsz⟩ := hx
  obtain ⟨rB, hnc2, hcm2⟩ := hp
  obtain ⟨rC, hnc3, hcm3, _⟩ := hl
  unfold maxLen at hcm hcm2 hcm3
  have HSZ : Hid (∀ x ∈ xs, x.size ≤ 9223372036854775807) := Lib.hid (fun x hx => by have := hsz x hx; unfold maxLen at this; omega)
  have HLN : Hid (ls.length = n3) := Lib.hid (by have := rC.1; simpa using this)
  clear hsz
  have bA : Below w.heap.size w (w.alloc (.cells #[.slice A n c, .slice B n2 c2] 26)) := (Below.refl _ _).alloc (Nat.le_refl _) _
  have B9 := Blk.new w 26 #[.slice A n c, .slice B n2 c2]
  have k0 := B9.cell 0
  have k1 : (w.alloc (.cells #[.slice A n c, .slice B n2 c2] 26)).cell? ⟨w.heap.size, 0 + 1, none⟩ = some (.slice B n2 c2) := B9.cell 1
  by_cases h1 : 10 < n
  · go_enter Tryz.func10, Tryz.ntmps10
    go_wp2_with (go_at_call 11; refine (alive7_any _ (HG.out.below bA)).mono ?_; rintro e w1 ⟨rfl, b1⟩)
    go_ret
    exact ⟨rfl, bA.trans (b1.mono (by simp))⟩
  by_cases h2 : 30 < n2
  · go_enter Tryz.func10, Tryz.ntmps10
    go_wp2_with (go_at_call 11; refine (alive7_any _ (HG.out.below bA)).mono ?_; rintro e w1 ⟨rfl, b1⟩)
    go_ret
    exact ⟨rfl, bA.trans (b1.mono (by simp))⟩
  by_cases h3 : 10 < n3
  · go_enter Tryz.func10, Tryz.ntmps10
    go_wp2_with (go_at_call 11; refine (alive7_any _ (HG.out.below bA)).mono ?_; rintro e w1 ⟨rfl, b1⟩)
    go_ret
    exact ⟨rfl, bA.trans (b1.mono (by simp))⟩
  have HRT := Lib.hid (right_any A B n c n2 c2 w.heap.size xs ps (w.alloc (.cells #[.slice A n c, .slice B n2 c2] 26)) (rA.alloc (Nat.le_refl _) _) (rB.alloc (Nat.le_refl _) _) (by simp) (by omega) (by omega) HSZ.out)
  cases hrt : rightT xs ps
  · rw [hrt] at HRT
    go_enter Tryz.func10, Tryz.ntmps10
    go_wp2_with (first
      | (go_at_call 13; refine HRT.out.mono ?_; rintro e w1 ⟨rfl, b1⟩; have bb := bA.trans (b1.mono bA.size))
      | (go_at_call 11; refine (alive7_any _ (HG.out.below bb)).mono ?_; rintro e w2 ⟨rfl, b2⟩))
    go_ret
    exact ⟨rfl, bb.trans (b2.mono bb.size)⟩
  · rw [hrt] at HRT
    have HNW := Lib.hid (fun (W : World) (b : Below w.heap.size w W) => veilNew_any A B n c n2 c2 w.heap.size xs ps who W (rA.below b) (rB.below b) b.size (by omega) (by omega) HSZ.out)
    obtain ⟨V, hV⟩ : ∃ V, newV xs ps who = V := ⟨_, rfl⟩
    rw [hV] at HNW
    have HV := Lib.hid hV
    clear hV hrt
    have hlt : w.heap.size < (w.alloc (.cells #[.slice A n c, .slice B n2 c2] 26)).heap.size := by simp
    go_enter Tryz.func10, Tryz.ntmps10
    go_upto_region 4 with (first
      | (go_at_call 13; refine HRT.out.mono ?_; rintro e w1 ⟨rfl, b1⟩; have bb := bA.trans (b1.mono bA.size))
      | (go_at_call 11; refine (alive7_any _ (HG.out.below bb)).mono ?_; rintro e w2 ⟨rfl, b2⟩
         have b12 := b1.trans (b2.mono b1.size)
         have bb2 := bb.trans (b2.mono bb.size)
         have z0 : w2.cell? ⟨w.heap.size, 0, none⟩ = some (.slice A n c) := (b12.cell (p := ⟨w.heap.size, 0, none⟩) hlt).trans k0
         have z1 : w2.cell? ⟨w.heap.size, 0 + 1, none⟩ = some (.slice B n2 c2) := (b12.cell (p := ⟨w.heap.size, 0 + 1, none⟩) hlt).trans k1))
    rcases V with ⟨kv, _ | s⟩
    · have HN2 := Lib.hid ((HNW.out _ bb2).mono (R' := fun e w' => e = .returned (.tuple #[.pointer none, .int .i64 kv]) ∧ Below w2.heap.size w2 w') (by
        rintro e w' ⟨b3, ⟨k, h1, h2⟩ | ⟨s, g, h1, _⟩⟩
        · simp only [Prod.mk.injEq, and_true] at h1
          subst h1
          exact ⟨h2, b3⟩
        · simp at h1))
      have h1 := HV.out
      have hk0 := newV_none h1
      clear h1
      rcases hk0 with rfl | rfl
      all_goals
       go_wp2_with (go_at_call 12; refine HN2.out.mono ?_; rintro e w3 ⟨rfl, b3⟩)
       go_ret
       exact ⟨rfl, bb2.trans (b3.mono bb2.size)⟩
    · have HN2 := Lib.hid ((HNW.out _ bb2).mono (R' := fun e w' => ∃ g, e = .returned (.tuple #[.pointer (some ⟨g, 0, none⟩), .int .i64 0]) ∧ SeerR w' w'.heap.size g s ∧ kv = 0 ∧ Below w2.heap.size w2 w') (by
        rintro e w' ⟨b3, ⟨k, h1, h2⟩ | ⟨s', g, h1, h2, h3⟩⟩
        · simp at h1
        · simp only [Prod.mk.injEq, Option.some.injEq] at h1
          obtain ⟨h1, rfl⟩ := h1
          exact ⟨g, h2, h3, h1, b3⟩))
      go_upto_region 5 with (go_at_call 12; refine HN2.out.mono ?_; rintro e w3 ⟨g, rfl, hS, hk0, b3⟩)
      have hnv := HV.out
      have ok := (newV_ok hnv).1
      have gd := newV_good hnv
      have bb3 := bb2.trans (b3.mono bb2.size)
      have KT := Lib.hid (kit_of (HG.out.below bb3) hS ok)
      have HONE := Lib.hid (sees_one ok gd)
      have HALL := Lib.hid (sees_all ok gd)
      have rC3 := (rC.below bb3).up bb3.size
      have hz3 := bb3.size
      clear hnv rA rB rC hS z0 z1 k0 k1 HRT HNW HN2
      go_wp2_with fail
      go_loopw [12, 53] (fun s12 s53 wr => ∃ k : Nat, k ≤ n3 ∧ s53 = .int .i64 (k : Int) ∧ s12 = .bool ((ls.take k).all (seesL s)) ∧ Below w3.heap.size w3 wr) (fun _ s53 _ => n3 - (intOf s53).toNat)
      case atStart => exact ⟨0, Nat.zero_le _, rfl, rfl, Below.refl _ _⟩
      case round =>
        obtain ⟨k, hk, rfl, rfl, hb⟩ := hrel
        have rCr := (rC3.below hb).up hb.size
        by_cases hlt2 : k < n3
        · obtain ⟨ad, u, rfl, _, hx0, hc⟩ := rCr.at_ hlt2
          obtain ⟨y, hy, rfl⟩ : ∃ y, ls[k]? = some y ∧ Value.string y = u := by simpa using hx0
          have HT : Hid ((ls.take (k + 1)).all (seesL s) = ((ls.take k).all (seesL s) && seesL s y)) := Lib.hid (by rw [List.take_add_one, hy, Option.toList_some, List.all_append]; simp)
          obtain ⟨pv, hpv⟩ : ∃ pv, (ls.take k).all (seesL s) = pv := ⟨_, rfl⟩
          rw [hpv] at HT
          rw [hpv]
          clear hpv hy hx0
          cases pv
          · go_wp2_with fail
            go_roundw
            case rel => exact ⟨k + 1, by omega, by go_num, by rw [HT.out]; rfl, hb⟩
            case measure => simp [intOf]; omega
          · go_wp2_with (go_at_call 15; refine (KT.out.lit _ [y] 1 hb rfl (by omega)).mono ?_; rw [HONE.out]; rintro e w5 ⟨rfl, b5⟩)
            go_roundw
            case rel => exact ⟨k + 1, by omega, by go_num, by rw [HT.out]; rfl, hb.trans (b5.mono hb.size)⟩
            case measure => simp [intOf]; omega
        · have hkn : k = n3 := by omega
          subst hkn
          have hta : ls.take k = ls := List.take_of_length_le (by rw [HLN.out]; exact Nat.le_refl _)
          rw [hta]
          clear hta
          go_wp2_with (go_at_call 15; refine (KT.out.sees _ _ _ _ ls hb rCr (by omega)).mono ?_; rw [HALL.out]; rintro e w5 ⟨rfl, b5⟩)
          go_ret
          exact ⟨by simp, bb3.trans ((hb.trans (b5.mono hb.size)).mono hz3)⟩
end Go.Proofs.YteeoohnkfdffnaaGreatDoor
