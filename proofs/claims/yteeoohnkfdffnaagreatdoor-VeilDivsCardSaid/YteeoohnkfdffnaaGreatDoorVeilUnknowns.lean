/-
  bowdlerlaw7.VeilUnknowns: its walk.
-/
import Derived.Test.YteeoohnkfdffnaaGreatDoorVeilStart
namespace Go.Proofs.YteeoohnkfdffnaaGreatDoor
open Go.RowKit
set_option linter.unusedVariables false

theorem dia_top : topT diaL = 3 := by decide +kernel
theorem dia_high : ∀ i, i < 4 → seesL (diaS i) ⟨#[104, 105, 103, 104]⟩ = (8 : Nat).testBit i := by decide +kernel
theorem dia_low : ∀ i, i < 4 → seesL (diaS i) ⟨#[108, 111, 119]⟩ = true := by decide +kernel
theorem seesL_unk {i : Nat} {x : ByteArray} (h : idxT diaN x < 0) : seesL (diaS i) x = (8 : Nat).testBit i := by
  have e : labAt (diaS i) x = 3 := by
    unfold labAt
    have : (diaS i).names = diaN := rfl
    rw [this, if_pos h]
    exact dia_top
  unfold seesL
  rw [e]; rfl
theorem unk_law {i : Nat} (hi : i < 4) {x : ByteArray} (h : idxT diaN x < 0) :
    seesT (diaS i) [x] = seesT (diaS i) [⟨#[104, 105, 103, 104]⟩] ∧ seesT (diaS i) [⟨#[108, 111, 119]⟩, x] = seesT (diaS i) [⟨#[104, 105, 103, 104]⟩] := by
  have ok := diaS_ok hi
  have gd := diaS_good hi
  rw [sees_all ok gd, sees_all ok gd, sees_all ok gd]
  simp only [List.all_cons, List.all_nil, Bool.and_true]
  rw [seesL_unk h, dia_high i hi, dia_low i hi]
  simp
theorem idxF_none {x : ByteArray} : ∀ (l : List ByteArray) (k : Nat), x ∉ l → idxF x k l = -1
  | [], _, _ => rfl
  | y :: ys, k, h => by
    simp only [List.mem_cons, not_or] at h
    unfold idxF
    rw [if_neg (fun e => h.1 (by first | exact e | exact e.symm))]
    exact idxF_none ys (k + 1) h.2

set_option maxHeartbeats 2000000 in
set_option maxRecDepth 100000 in
theorem veilUnknowns_walk (kk : Int) (label : ByteArray) (w : World) (hg : Glb w) (_ : (Lit.int .i64 kk).wf = true) (_ : label.size ≤ 140737488351232) :
    Calls Tryz.prog 8 #[.int .i64 kk, .string label] w fun e w' => e = .returned (.bool true) ∧ Below w.heap.size w w' := by
  have HG := Lib.hid hg
  by_cases h60 : 60 < label.size
  · go_enter Tryz.func8, Tryz.ntmps8
    go_wp2_with (go_at_call 11; refine (alive7_any w HG.out).mono ?_; rintro e w1 ⟨rfl, b1⟩)
    go_ret
    exact ⟨rfl, b1⟩
  · obtain ⟨⟨i, hi, hmod⟩, hb1, hb2⟩ := tmod4 kk
    go_enter Tryz.func8, Tryz.ntmps8
    go_upto_region 4 with (first
      | (go_at_call 11; refine (alive7_any w HG.out).mono ?_; rintro e w1 ⟨rfl, b1⟩)
      | (go_at_call 25; refine (diamond_any w1).mono ?_; rintro e w2 ⟨A, B, rfl, hA, hB, b2⟩))
    have bb2 := b1.trans (b2.mono b1.size)
    have B3 := Blk.new w2 26 #[.slice A 4 4, .slice B 4 4]
    have hA3 := (hA.alloc (Nat.le_refl _) (.cells #[.slice A 4 4, .slice B 4 4] 26)).up (K' := (w2.alloc (.cells #[.slice A 4 4, .slice B 4 4] 26)).heap.size) (by simp)
    have hB3 := (hB.alloc (Nat.le_refl _) (.cells #[.slice A 4 4, .slice B 4 4] 26)).up (K' := (w2.alloc (.cells #[.slice A 4 4, .slice B 4 4] 26)).heap.size) (by simp)
    have bb3 := bb2.alloc bb2.size (.cells #[.slice A 4 4, .slice B 4 4] 26)
    have hgl3 : w2.heap.size < (w2.alloc (.cells #[.slice A 4 4, .slice B 4 4] 26)).heap.size := by simp
    obtain ⟨gd, hgd⟩ : ∃ gd, w2.heap.size = gd := ⟨_, rfl⟩
    rw [hgd] at B3 hgl3
    rw [hgd]
    generalize w2.alloc (.cells #[.slice A 4 4, .slice B 4 4] 26) = w3 at *
    clear hA hB hgd b1 b2 bb2
    obtain ⟨ad, u, rfl, hlt, hx0, hc⟩ := hA3.at_ hi
    obtain ⟨x, hx, rfl⟩ : ∃ x, diaN[i]? = some x ∧ Value.string x = u := by simpa using hx0
    have hxn : nmD i = x := by unfold nmD; rw [List.getD_eq_getElem?_getD, hx]; rfl
    have k0 : w3.cell? ⟨gd, 0, none⟩ = some (.slice (some ad) 4 4) := B3.cell 0
    have k1 : w3.cell? ⟨gd, 0 + 1, none⟩ = some (.slice B 4 4) := B3.cell 1
    have HNEW := Lib.hid (newDia_from (HG.out.below bb3) hA3 hB3 i hi)
    rw [hxn] at HNEW
    have x1 : IntKind.i64.wrap (kk.tmod 4 + 4) = kk.tmod 4 + 4 := IntWalk.i64_in _ (by omega)
    have x2 : (0 : Int) ≤ (i : Int) := by omega
    have x3 : (i : Int) < 4 := by omega
    have x4 : (i : Int).toNat = i := rfl
    clear hx hx0 hxn
    go_region_held3 (fun w' => w'.cell? ⟨gd, 0, none⟩ = some (.slice (some ad) 4 4) ∧ w'.cell? ⟨gd, 0 + 1, none⟩ = some (.slice B 4 4) ∧ w'.cell? (ad.add i) = some (.string x)) (go_keep)
      ((go_at_call 12; refine (HNEW.out _ (below_drewN' (Below.refl _ _) 1)).mono ?_; rintro e w5 ⟨g, rfl, kt, hg5, b5⟩; have z0 := (b5.cell (p := ⟨gd, 0, none⟩) hgl3).trans k0; have z1 := (b5.cell (p := ⟨gd, 0 + 1, none⟩) hgl3).trans k1; have z2 := (b5.cell (p := ad.add i) (by rw [block_of_add]; exact hlt)).trans hc))
    have hA5 := hA3.below b5
    have KT := Lib.hid kt
    have hzz := b5.size
    clear x1 x2 x3 x4 hmod hb1 hb2 k0 k1 hc HNEW kt hA3 hB3 B3
    go_wp2_with fail
    go_loop [37] (fun s37 => ∃ j : Nat, j ≤ 4 ∧ s37 = .int .i64 (j : Int) ∧ Hid (∀ m y, m < j → diaN[m]? = some y → y ≠ label)) (fun s37 => 4 - (intOf s37).toNat)
    case atStart => exact ⟨0, by omega, rfl, Lib.hid (fun m y h => by omega)⟩
    case round =>
      obtain ⟨j, hj, rfl, HALL⟩ := hrel
      by_cases hlt4 : j < 4
      · obtain ⟨ad2, u2, e2, _, hy0, hc2⟩ := hA5.at_ hlt4
        obtain ⟨y, hy, rfl⟩ : ∃ y, diaN[j]? = some y ∧ Value.string y = u2 := by simpa using hy0
        obtain rfl : ad = ad2 := by injection e2
        have HY := Lib.hid hy
        clear hy hy0 e2
        by_cases hyl : y = label
        · subst hyl
          have hun : decide (idxT (diaS i).names y < 0) = false := by
            have : nmD j = y := by unfold nmD; rw [List.getD_eq_getElem?_getD, HY.out]; rfl
            have h2 := dia_at j hlt4
            rw [this] at h2
            have h3 : (diaS i).names = diaN := rfl
            rw [h3, h2]
            exact decide_eq_false (by omega)
          go_wp2_with (go_at_call 16; refine (KT.out.unk _ _ (Below.refl _ _)).mono ?_; rw [hun]; rintro e w6 ⟨rfl, b6⟩)
          go_ret
          exact ⟨rfl, bb3.trans (b5.trans (b6.mono hzz) |>.mono (by have := bb3.size; omega))⟩
        · obtain ⟨q1, q2, q3⟩ := bytes_ne hyl
          go_wp2_with fail
          go_round
          case rel => exact ⟨j + 1, by omega, by go_num, Lib.hid (fun m y2 hm h2 => by
            rcases Nat.lt_or_ge m j with h | h
            · exact HALL.out m y2 h h2
            · obtain rfl : m = j := by omega
              rw [HY.out] at h2
              injection h2 with h2
              rw [← h2]; exact hyl)⟩
          case measure => simp [intOf]; omega
      · have hj4 : j = 4 := by omega
        subst hj4
        have hun : idxT diaN label < 0 := by
          have : label ∉ diaN := fun hm => by
            obtain ⟨m, hm2⟩ := List.mem_iff_getElem?.1 hm
            have hml := (List.getElem?_eq_some_iff.1 hm2).1
            exact HALL.out m label hml hm2 rfl
          unfold idxT
          rw [idxF_none diaN 0 this]; decide
        obtain ⟨l1, l2⟩ := unk_law hi hun
        have hud : decide (idxT (diaS i).names label < 0) = true := decide_eq_true hun
        obtain ⟨V, hV⟩ : ∃ V, seesT (diaS i) [⟨#[104, 105, 103, 104]⟩] = V := ⟨_, rfl⟩
        rw [hV] at l1 l2
        have bb : Below w5.heap.size w5 w5 := Below.refl _ _
        have st0 := trivial
        clear hun
        go_wp2_with (first
          | (go_at_call 16; refine (KT.out.unk _ _ bb).mono ?_; rw [hud]; rintro e w6 ⟨rfl, b6⟩; have bb := bb.trans (b6.mono bb.size))
          | (go_at_call 15; have st1 := st0; clear st0; refine (KT.out.lit _ [label] 1 bb rfl (by omega)).mono ?_; rw [l1]; rintro e w6 ⟨rfl, b6⟩; have bb := bb.trans (b6.mono bb.size))
          | (go_at_call 15; have st2 := st1; clear st1; refine (KT.out.lit _ [⟨#[104, 105, 103, 104]⟩] 1 bb rfl (by omega)).mono ?_; rw [hV]; rintro e w6 ⟨rfl, b6⟩; have bb := bb.trans (b6.mono bb.size))
          | (go_at_call 15; have st3 := st2; clear st2; refine (KT.out.lit _ [⟨#[108, 111, 119]⟩, label] 2 bb rfl (by omega)).mono ?_; rw [l2]; rintro e w6 ⟨rfl, b6⟩; have bb := bb.trans (b6.mono bb.size))
          | (go_at_call 15; refine (KT.out.lit _ [⟨#[104, 105, 103, 104]⟩] 1 bb rfl (by omega)).mono ?_; rw [hV]; rintro e w6 ⟨rfl, b6⟩; have bb := bb.trans (b6.mono bb.size)))
        go_ret
        refine ⟨by simp, bb3.trans (b5.trans (bb.mono hzz) |>.mono (by have := bb3.size; omega))⟩
end Go.Proofs.YteeoohnkfdffnaaGreatDoor
