/-
  bowdlerlaw7.VeilLines: its walk.
-/
import Derived.Test.YteeoohnkfdffnaaGreatDoorVeilUnknowns
import Derived.Test.YteeoohnkfdffnaaGreatDoorGE
import Derived.Test.YteeoohnkfdffnaaGreatDoorOpenTexts
namespace Go.Proofs.YteeoohnkfdffnaaGreatDoor
open Go.RowKit
set_option linter.unusedVariables false

/-- a place at which a label begins -/
def markAt (l : List UInt8) (i : Nat) : Bool := decide (l[i]? = some 123) && (decide (l[i + 1]? = some 124) || decide (l[i + 1]? = some 61))
/-- none so far -/
def plainTo (l : List UInt8) : Nat → Bool
  | 0 => true
  | i + 1 => plainTo l i && !markAt l i
theorem plainTo_mem {l : List UInt8} : ∀ {k : Nat}, plainTo l k = true → ∀ i, i < k → markAt l i = false
  | 0, _, i, h => by omega
  | k + 1, h, i, hi => by
    unfold plainTo at h
    simp only [Bool.and_eq_true, Bool.not_eq_true'] at h
    rcases Nat.lt_or_ge i k with h1 | h1
    · exact plainTo_mem h.1 i h1
    · obtain rfl : i = k := by omega
      exact h.2
theorem plain_of {l : List UInt8} (h : plainTo l (l.length - 1) = true) : plainT7 l := by
  intro i hi
  have hil := (List.getElem?_eq_some_iff.1 hi).1
  by_cases hlt : i < l.length - 1
  · have := plainTo_mem h i hlt
    unfold markAt at this
    rw [hi] at this
    simp at this
    exact this
  · have : l[i + 1]? = none := List.getElem?_eq_none (by omega)
    rw [this]; simp

set_option maxHeartbeats 4000000 in
set_option maxRecDepth 100000 in
theorem veilLines_walk (kk : Int) (l : ByteArray) (C : Option Addr) (n cap : Nat) (us : List ByteArray) (w : World) (hg : Glb w) (_ : (Lit.int .i64 kk).wf = true) (_ : l.size ≤ 140737488351232) (hl : IsTexts w C n cap us) :
    Calls Tryz.prog 6 #[.int .i64 kk, .string l, .slice C n cap] w fun e w' => e = .returned (.bool true) ∧ Below w.heap.size w w' := by
  have HG := Lib.hid hg
  obtain ⟨hrC, hnc, hcm, _⟩ := hl
  by_cases h60 : 200 < l.size ∨ 5 < n
  · rcases Nat.lt_or_ge 200 l.size with h200 | h200
    · clear h60
      go_enter Tryz.func6, Tryz.ntmps6
      go_wp2_with (go_at_call 11; refine (alive7_any w HG.out).mono ?_; rintro e w1 ⟨rfl, b1⟩)
      go_ret
      exact ⟨rfl, b1⟩
    · have h5 : 5 < n := by omega
      clear h60
      go_enter Tryz.func6, Tryz.ntmps6
      go_wp2_with (go_at_call 11; refine (alive7_any w HG.out).mono ?_; rintro e w1 ⟨rfl, b1⟩)
      go_ret
      exact ⟨rfl, b1⟩
  · obtain ⟨h200, h5⟩ : l.size ≤ 200 ∧ n ≤ 5 := by omega
    clear h60
    obtain ⟨⟨i, hi, hmod⟩, hb1, hb2⟩ := tmod4 kk
    go_enter Tryz.func6, Tryz.ntmps6
    go_upto_region 4 with (first
      | (go_at_call 11; refine (alive7_any w HG.out).mono ?_; rintro e w1 ⟨rfl, b1⟩)
      | (go_at_call 25; refine (diamond_any w1).mono ?_; rintro e w2 ⟨A, B, rfl, hA, hB, b2⟩))
    have bb2 := b1.trans (b2.mono b1.size)
    have B3 := Blk.new w2 26 #[.slice A 4 4, .slice B 4 4]
    have hA3 := (hA.alloc (Nat.le_refl _) (.cells #[.slice A 4 4, .slice B 4 4] 26)).up (K' := (w2.alloc (.cells #[.slice A 4 4, .slice B 4 4] 26)).heap.size) (by simp)
    have hB3 := (hB.alloc (Nat.le_refl _) (.cells #[.slice A 4 4, .slice B 4 4] 26)).up (K' := (w2.alloc (.cells #[.slice A 4 4, .slice B 4 4] 26)).heap.size) (by simp)
    have bb3 := bb2.alloc bb2.size (.cells #[.slice A 4 4, .slice B 4 4] 26)
    have hgl3 : w2.heap.size < (w2.alloc (.cells #[.slice A 4 4, .slice B 4 4] 26)).heap.size := by simp
    obtain ⟨gd, hgd⟩ : ∃ gd, w2.heap.size = gd := ⟨_, rfl⟩
    rw [hgd] at B3 hgl3
    rw [hgd]
    generalize w2.alloc (.cells #[.slice A 4 4, .slice B 4 4] 26) = w3 at *
    clear hA hB hgd b1 b2 bb2
    obtain ⟨ad, u, rfl, hlt, hx0, hc⟩ := hA3.at_ hi
    obtain ⟨x, hx, rfl⟩ : ∃ x, diaN[i]? = some x ∧ Value.string x = u := by simpa using hx0
    have hxn : nmD i = x := by unfold nmD; rw [List.getD_eq_getElem?_getD, hx]; rfl
    have k0 : w3.cell? ⟨gd, 0, none⟩ = some (.slice (some ad) 4 4) := B3.cell 0
    have k1 : w3.cell? ⟨gd, 0 + 1, none⟩ = some (.slice B 4 4) := B3.cell 1
    have HNEW := Lib.hid (newDia_from (HG.out.below bb3) hA3 hB3 i hi)
    rw [hxn] at HNEW
    have x1 : IntKind.i64.wrap (kk.tmod 4 + 4) = kk.tmod 4 + 4 := IntWalk.i64_in _ (by omega)
    have x2 : (0 : Int) ≤ (i : Int) := by omega
    have x3 : (i : Int) < 4 := by omega
    have x4 : (i : Int).toNat = i := rfl
    clear hx hx0 hxn
    go_region_held3 (fun w' => w'.cell? ⟨gd, 0, none⟩ = some (.slice (some ad) 4 4) ∧ w'.cell? ⟨gd, 0 + 1, none⟩ = some (.slice B 4 4) ∧ w'.cell? (ad.add i) = some (.string x)) (go_keep)
      ((go_at_call 12; refine (HNEW.out _ (below_drewN' (Below.refl _ _) 1)).mono ?_; rintro e w5 ⟨g, rfl, kt, hg5, b5⟩; have z0 := (b5.cell (p := ⟨gd, 0, none⟩) hgl3).trans k0; have z1 := (b5.cell (p := ⟨gd, 0 + 1, none⟩) hgl3).trans k1; have z2 := (b5.cell (p := ad.add i) (by rw [block_of_add]; exact hlt)).trans hc))
    have bb5 : Below w.heap.size w w5 := bb3.trans (b5.mono bb3.size)
    have hrC5 := (hrC.below bb5).up bb5.size
    clear x1 x2 x3 x4 hmod hb1 hb2 k0 k1 hc HNEW hA3 hB3 B3 hrC z0 z1 z2
    have KT := Lib.hid kt
    clear kt
    have hzz := bb5.size
    have hsz := lineT_size (diaS i) l us
    have HAG := Lib.hid (lineT_again (diaS i) l us)
    have HPL := Lib.hid (lineT_plain (diaS i) l us)
    obtain ⟨V, hV⟩ : ∃ V, lineT (diaS i) l us = V := ⟨_, rfl⟩
    rw [hV] at hsz HAG HPL
    have HV := Lib.hid hV
    clear hV
    go_upto_region 8 with (go_at_call 18; refine (KT.out.line _ _ _ _ _ us (Below.refl _ _) (by omega) hrC5 (by omega)).mono ?_; rw [HV.out]; rintro e w6 ⟨rfl, bb⟩)
    have hrC6 := (hrC5.below bb).up bb.size
    go_wp2_with fail
    go_loop [11, 12] (fun s11 s12 => ∃ j : Nat, j ≤ l.size ∧ s12 = .int .i64 (j : Int) ∧ s11 = .bool (plainTo (L l) j) ∧ (j = 0 ∨ j + 1 ≤ l.size)) (fun _ s12 => l.size - (intOf s12).toNat)
    case atStart => exact ⟨0, by omega, rfl, rfl, .inl rfl⟩
    case round =>
      obtain ⟨j, hj, rfl, rfl, hj2⟩ := hrel
      by_cases hlt2 : j + 1 < l.size
      · have hl0 : (L l).length = l.size := length_L l
        have hjl : j < l.size := by omega
        have g0 : (L l)[j]? = some (l[j]'hjl) := by rw [List.getElem?_eq_getElem (by omega)]; rfl
        have g1 : (L l)[j + 1]? = some (l[j + 1]'hlt2) := by rw [List.getElem?_eq_getElem (by omega)]; rfl
        have hmk : markAt (L l) j = (decide (l[j]'hjl = 123) && (decide (l[j + 1]'hlt2 = 124) || decide (l[j + 1]'hlt2 = 61))) := by
          unfold markAt; rw [g0, g1]; simp
        have HPT : Hid (plainTo (L l) (j + 1) = (plainTo (L l) j && !(decide (l[j]'hjl = 123) && (decide (l[j + 1]'hlt2 = 124) || decide (l[j + 1]'hlt2 = 61))))) := Lib.hid (by rw [← hmk]; rfl)
        clear hl0 g0 g1 hmk
        obtain ⟨pj, hpj⟩ : ∃ pj, plainTo (L l) j = pj := ⟨_, rfl⟩
        rw [hpj] at HPT
        rw [hpj]
        clear hpj
        by_cases hb0 : l[j]'hjl = 123
        · by_cases hb1 : l[j + 1]'hlt2 = 124
          · have HN : Hid (plainTo (L l) (j + 1) = false) := Lib.hid (by rw [HPT.out, hb0, hb1]; simp)
            go_wp2_with fail
            go_round
            case rel => exact ⟨j + 1, by omega, by go_num, by rw [HN.out], by omega⟩
            case measure => simp [intOf]; omega
          · have q1 : ((l[j + 1].toNat : Int) == 124) = false := byte_ne (n := 124) (by decide) hb1
            by_cases hb2 : l[j + 1]'hlt2 = 61
            · have HN : Hid (plainTo (L l) (j + 1) = false) := Lib.hid (by rw [HPT.out, hb0, hb2]; simp)
              go_wp2_with fail
              go_round
              case rel => exact ⟨j + 1, by omega, by go_num, by rw [HN.out], by omega⟩
              case measure => simp [intOf]; omega
            · have q2 : ((l[j + 1].toNat : Int) == 61) = false := byte_ne (n := 61) (by decide) hb2
              have HN : Hid (plainTo (L l) (j + 1) = pj) := Lib.hid (by rw [HPT.out, decide_eq_false hb1, decide_eq_false hb2]; simp)
              go_wp2_with fail
              go_round
              case rel => exact ⟨j + 1, by omega, by go_num, by rw [HN.out], by omega⟩
              case measure => simp [intOf]; omega
        · have q0 : ((l[j].toNat : Int) == 123) = false := byte_ne (n := 123) (by decide) hb0
          have HN : Hid (plainTo (L l) (j + 1) = pj) := Lib.hid (by rw [HPT.out, decide_eq_false hb0]; simp)
          go_wp2_with fail
          go_round
          case rel => exact ⟨j + 1, by omega, by go_num, by rw [HN.out], by omega⟩
          case measure => simp [intOf]; omega
      · have hjz : j = l.size - 1 := by omega
        have hb6 := bb.size
        have bw6 : Below w.heap.size w w6 := bb5.trans (bb.mono hzz)
        cases hp : plainTo (L l) j
        · go_wp2_with (go_at_call 18; refine (KT.out.line _ _ _ _ _ us bb (by omega) hrC6 (by omega)).mono ?_; rw [HAG.out]; rintro e w7 ⟨rfl, b7⟩)
          go_ret
          exact ⟨by simp, bw6.trans (b7.mono bw6.size)⟩
        · have hVl : V = l := HPL.out (plain_of (by rw [length_L, ← hjz]; exact hp))
          subst hVl
          go_wp2_with (go_at_call 18; refine (KT.out.line _ _ _ _ _ us bb (by omega) hrC6 (by omega)).mono ?_; rw [HAG.out]; rintro e w7 ⟨rfl, b7⟩)
          go_ret
          exact ⟨by simp, bw6.trans (b7.mono bw6.size)⟩
end Go.Proofs.YteeoohnkfdffnaaGreatDoor
