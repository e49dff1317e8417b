/-
  bowdlerlaw7.VeilTwice: its walk.
-/
import Derived.Test.YteeoohnkfdffnaaGreatDoorVeilUnknowns
import Derived.Test.YteeoohnkfdffnaaGreatDoorVeilLessLaw
import Derived.Test.YteeoohnkfdffnaaGreatDoorFrameL
namespace Go.Proofs.YteeoohnkfdffnaaGreatDoor
open Go.RowKit
set_option linter.unusedVariables false

theorem newDia_at {w : World} {A B : Option Addr} {K : Nat} (hg : Glb w) (hr : Reads w K 1 A 4 (txCells diaN)) (hr2 : Reads w K 2 B 4 (prCells diaP)) (hK : K ≤ w.heap.size) (i : Nat) (hi : i < 4) (W : World) (b : Below w.heap.size w W) :
    Calls Tryz.prog 12 #[.agg #[.slice A 4 4, .slice B 4 4], .string (nmD i)] W fun e w' => ∃ g, e = .returned (.tuple #[.pointer (some ⟨g, 0, none⟩), .int .i64 0]) ∧ Kit w' g (diaS i) ∧ Glb w' ∧ Below w.heap.size w w' :=
  (newDia_any i hi A B K W (hg.below b) (hr.below (b.mono hK)) (hr2.below (b.mono hK)) (Nat.le_trans hK b.size)).mono fun e w' ⟨g, e1, k, hg2, b2⟩ => ⟨g, e1, k, hg2, b.trans (b2.mono b.size)⟩
theorem up_bits : ∀ a, a < 4 → (at0 diaL.up a).testBit 3 = true ∧ ((at0 diaL.up a).testBit 0 = true → ∀ i, i < 4 → (at0 diaL.up a).testBit i = true) := by decide +kernel
theorem sees_high (u : List ByteArray) : seesT (diaS 3) u = true := by
  rw [sees_all (diaS_ok (by omega)) (diaS_good (by omega)), List.all_eq_true]
  intro x _
  exact (up_bits _ (labAt_lt (diaS_ok (i := 3) (by omega)) x)).1
theorem labAt_same (i j : Nat) (x : ByteArray) : labAt (diaS i) x = labAt (diaS j) x := rfl
theorem sees_low {i : Nat} (hi : i < 4) (u : List ByteArray) (h : seesT (diaS 0) u = true) : seesT (diaS i) u = true := by
  rw [sees_all (diaS_ok (by omega)) (diaS_good (by omega)), List.all_eq_true] at h
  rw [sees_all (diaS_ok hi) (diaS_good hi), List.all_eq_true]
  intro x hx
  exact (up_bits _ (labAt_lt (diaS_ok hi) x)).2 (h x hx) i hi
/-- all that the law asks -/
theorem twice_law {i j : Nat} (hi : i < 4) (hj : j < 4) (doc : ByteArray) (hd : doc.size ≤ 1000) : ∃ x z u lw,
    veilT (diaS i) doc = x ∧ veilT (diaS i) x = x ∧ veilT (diaS 3) x = x ∧ veilT (diaS 0) x = lw ∧ veilT (diaS 0) doc = lw ∧ veilT (diaS j) x = z ∧ veilT (diaS i) z = z ∧ veilT (diaS j) doc = u ∧ veilT (diaS i) u = z ∧
    x.size ≤ 5000 ∧ z.size ≤ 5000 ∧ u.size ≤ 5000 := by
  have hs : ∀ v, (docP v doc).size ≤ 5000 := fun v => by
    have h1 := (less_law v doc).1
    rw [size_S] at h1
    have := repT_le doc
    omega
  refine ⟨docP (seesT (diaS i)) doc, docP (fun y => seesT (diaS i) y && seesT (diaS j) y) doc, docP (seesT (diaS j)) doc, docP (seesT (diaS 0)) doc, veilT_eq _ _, ?_, ?_, ?_, veilT_eq _ _, ?_, ?_, veilT_eq _ _, ?_, hs _, hs _, hs _⟩
  · rw [veilT_eq, docP_twice]; exact docP_congr (fun y => Bool.and_self _) _
  · rw [veilT_eq, docP_twice]; exact docP_congr (fun y => by rw [sees_high, Bool.and_true]) _
  · rw [veilT_eq, docP_twice]
    exact docP_congr (fun y => by
      cases h : seesT (diaS 0) y
      · rw [Bool.and_false]
      · rw [sees_low hi y h]; rfl) _
  · rw [veilT_eq, docP_twice]
  · rw [veilT_eq, docP_twice]
    exact docP_congr (fun y => by cases seesT (diaS i) y <;> cases seesT (diaS j) y <;> rfl) _
  · rw [veilT_eq, docP_twice]
    exact docP_congr (fun y => Bool.and_comm _ _) _

set_option maxHeartbeats 4000000 in
set_option maxRecDepth 100000 in
theorem veilTwice_walk (doc : ByteArray) (kk jj : Int) (w : World) (hg : Glb w) (_ : doc.size ≤ 140737488351232) (_ : (Lit.int .i64 kk).wf = true) (_ : (Lit.int .i64 jj).wf = true) :
    Calls Tryz.prog 4 #[.string doc, .int .i64 kk, .int .i64 jj] w fun e w' => e = .returned (.bool true) ∧ Below w.heap.size w w' := by
  have HG := Lib.hid hg
  by_cases h60 : 1000 < doc.size
  · go_enter Tryz.func4, Tryz.ntmps4
    go_wp2_with (go_at_call 11; refine (alive7_any w HG.out).mono ?_; rintro e w1 ⟨rfl, b1⟩)
    go_ret
    exact ⟨rfl, b1⟩
  · obtain ⟨⟨i, hi, hmod⟩, hb1, hb2⟩ := tmod4 kk
    obtain ⟨⟨j, hj, hmodj⟩, hb1j, hb2j⟩ := tmod4 jj
    go_enter Tryz.func4, Tryz.ntmps4
    go_upto_region 4 with (first
      | (go_at_call 11; refine (alive7_any w HG.out).mono ?_; rintro e w1 ⟨rfl, b1⟩)
      | (go_at_call 25; refine (diamond_any w1).mono ?_; rintro e w2 ⟨A, B, rfl, hA, hB, b2⟩))
    have bb2 := b1.trans (b2.mono b1.size)
    have B3 := Blk.new w2 26 #[.slice A 4 4, .slice B 4 4]
    have hA3 := (hA.alloc (Nat.le_refl _) (.cells #[.slice A 4 4, .slice B 4 4] 26)).up (K' := (w2.alloc (.cells #[.slice A 4 4, .slice B 4 4] 26)).heap.size) (by simp)
    have hB3 := (hB.alloc (Nat.le_refl _) (.cells #[.slice A 4 4, .slice B 4 4] 26)).up (K' := (w2.alloc (.cells #[.slice A 4 4, .slice B 4 4] 26)).heap.size) (by simp)
    have bb3 := bb2.alloc bb2.size (.cells #[.slice A 4 4, .slice B 4 4] 26)
    have hgl3 : w2.heap.size < (w2.alloc (.cells #[.slice A 4 4, .slice B 4 4] 26)).heap.size := by simp
    obtain ⟨gd, hgd⟩ : ∃ gd, w2.heap.size = gd := ⟨_, rfl⟩
    rw [hgd] at B3 hgl3
    rw [hgd]
    generalize w2.alloc (.cells #[.slice A 4 4, .slice B 4 4] 26) = w3 at *
    clear hA hB hgd b1 b2 bb2
    obtain ⟨ad, u, rfl, hlt, hx0, hc⟩ := hA3.at_ hi
    obtain ⟨x, hx, rfl⟩ : ∃ x, diaN[i]? = some x ∧ Value.string x = u := by simpa using hx0
    have hxn : nmD i = x := by unfold nmD; rw [List.getD_eq_getElem?_getD, hx]; rfl
    have k0 : w3.cell? ⟨gd, 0, none⟩ = some (.slice (some ad) 4 4) := B3.cell 0
    have k1 : w3.cell? ⟨gd, 0 + 1, none⟩ = some (.slice B 4 4) := B3.cell 1
    have HNEW := Lib.hid (newDia_from (HG.out.below bb3) hA3 hB3 i hi)
    rw [hxn] at HNEW
    have x1 : IntKind.i64.wrap (kk.tmod 4 + 4) = kk.tmod 4 + 4 := IntWalk.i64_in _ (by omega)
    have x2 : (0 : Int) ≤ (i : Int) := by omega
    have x3 : (i : Int) < 4 := by omega
    have x4 : (i : Int).toNat = i := rfl
    clear hx hx0 hxn
    go_region_held3 (fun w' => w'.cell? ⟨gd, 0, none⟩ = some (.slice (some ad) 4 4) ∧ w'.cell? ⟨gd, 0 + 1, none⟩ = some (.slice B 4 4) ∧ w'.cell? (ad.add i) = some (.string x)) (go_keep)
      ((go_at_call 12; refine (HNEW.out _ (below_drewN' (Below.refl _ _) 1)).mono ?_; rintro e w5 ⟨g, rfl, kt, hg5, b5⟩; have z0 := (b5.cell (p := ⟨gd, 0, none⟩) hgl3).trans k0; have z1 := (b5.cell (p := ⟨gd, 0 + 1, none⟩) hgl3).trans k1; have z2 := (b5.cell (p := ad.add i) (by rw [block_of_add]; exact hlt)).trans hc))
    have KA := Lib.hid kt
    clear kt x1 x2 x3 x4 hmod hb1 hb2 k0 k1 HNEW
    have hA5 := hA3.below b5
    have hB5 := hB3.below b5
    obtain ⟨ad2, uj, e2, _, hy0, hcj⟩ := hA5.at_ hj
    obtain ⟨y, hy, rfl⟩ : ∃ y, diaN[j]? = some y ∧ Value.string y = uj := by simpa using hy0
    obtain rfl : ad = ad2 := by injection e2
    have hyn : nmD j = y := by unfold nmD; rw [List.getD_eq_getElem?_getD, hy]; rfl
    have hz5 := b5.size
    have HNEW := Lib.hid (newDia_at hg5 hA5 hB5 hz5 j hj)
    rw [hyn] at HNEW
    have x1 : IntKind.i64.wrap (jj.tmod 4 + 4) = jj.tmod 4 + 4 := IntWalk.i64_in _ (by omega)
    have x2 : (0 : Int) ≤ (j : Int) := by omega
    have x3 : (j : Int) < 4 := by omega
    have x4 : (j : Int).toNat = j := rfl
    have hgl5 : gd < w5.heap.size := by omega
    clear hy hy0 hyn e2 z2
    go_upto_region 5 with fail
    go_region_held3 (fun w' => w'.cell? ⟨gd, 0, none⟩ = some (.slice (some ad) 4 4) ∧ w'.cell? ⟨gd, 0 + 1, none⟩ = some (.slice B 4 4) ∧ w'.cell? (ad.add j) = some (.string y)) (go_keep)
      ((go_at_call 12; refine (HNEW.out _ (below_drewN' (Below.refl _ _) 1)).mono ?_; rintro e w6 ⟨g2, rfl, kt, hg6, b6⟩; have z0 := (b6.cell (p := ⟨gd, 0, none⟩) hgl5).trans z0; have z1 := (b6.cell (p := ⟨gd, 0 + 1, none⟩) hgl5).trans z1; have z2 := (b6.cell (p := ad.add j) (by rw [block_of_add]; omega)).trans hcj))
    have KB := Lib.hid kt
    clear kt x1 x2 x3 x4 hmodj hb1j hb2j HNEW hcj
    have hz6 := b6.size
    have HN3 := Lib.hid (newDia_at hg6 (hA5.below (b6.mono hz5)) (hB5.below (b6.mono hz5)) (Nat.le_trans hz5 hz6) 3 (by omega))
    have hgl6 : gd < w6.heap.size := by omega
    go_upto_region 7 with (go_at_call 12; refine (HN3.out _ (Below.refl _ _)).mono ?_; rintro e w7 ⟨g3, rfl, kt, hg7, b7⟩)
    have KH := Lib.hid kt
    have hz7 := b7.size
    have HN0 := Lib.hid (newDia_at hg7 ((hA5.below (b6.mono hz5)).below (b7.mono (Nat.le_trans hz5 hz6))) ((hB5.below (b6.mono hz5)).below (b7.mono (Nat.le_trans hz5 hz6))) (Nat.le_trans hz5 (Nat.le_trans hz6 hz7)) 0 (by omega))
    have z3 := (b7.cell (p := ⟨gd, 0, none⟩) hgl6).trans z0
    have z4 := (b7.cell (p := ⟨gd, 0 + 1, none⟩) hgl6).trans z1
    clear kt HN3 z0 z1 z2
    go_upto_region 8 with (go_at_call 12; refine (HN0.out _ (Below.refl _ _)).mono ?_; rintro e w8 ⟨g4, rfl, kt, hg8, b8⟩)
    have KL := Lib.hid kt
    clear kt HN0 z3 z4
    have b78 : Below w6.heap.size w6 w8 := b7.trans (b8.mono hz7)
    have b68 : Below w5.heap.size w5 w8 := b6.trans (b78.mono hz6)
    have KA := Lib.hid (KA.out.up b68)
    have KB := Lib.hid (KB.out.up b78)
    have KH := Lib.hid (KH.out.up b8)
    have bw8 : Below w.heap.size w w8 := bb3.trans ((b5.trans (b68.mono hz5)).mono bb3.size)
    clear hA3 hB3 B3 hA5 hB5 hg5 hg6 hg7 hg8 hc hlt hgl3 hgl5 hgl6 b5 b6 b7 b8 b78 b68 bb3 HG
    obtain ⟨x', z, u, lw, q1, q2, q3, q4, q5, q6, q7, q8, q9, y1, y2, y3⟩ := twice_law hi hj doc (by omega)
    have Q1 := Lib.hid q1
    have Q2 := Lib.hid q2
    have Q3 := Lib.hid q3
    have Q4 := Lib.hid q4
    have Q5 := Lib.hid q5
    have Q6 := Lib.hid q6
    have Q7 := Lib.hid q7
    have Q8 := Lib.hid q8
    have Q9 := Lib.hid q9
    have bb : Below w8.heap.size w8 w8 := Below.refl _ _
    have st0 := trivial
    clear q1 q2 q3 q4 q5 q6 q7 q8 q9
    go_wp2_with (first
      | (go_at_call 17; have st1 := st0; clear st0; refine (KA.out.veil _ doc bb (by omega)).mono ?_; rw [Q1.out]; rintro e w9 ⟨rfl, b9⟩; have bb := bb.trans (b9.mono bb.size))
      | (go_at_call 17; have st2 := st1; clear st1; refine (KA.out.veil _ x' bb (by omega)).mono ?_; rw [Q2.out]; rintro e w9 ⟨rfl, b9⟩; have bb := bb.trans (b9.mono bb.size))
      | (go_at_call 17; have st3 := st2; clear st2; refine (KH.out.veil _ x' bb (by omega)).mono ?_; rw [Q3.out]; rintro e w9 ⟨rfl, b9⟩; have bb := bb.trans (b9.mono bb.size))
      | (go_at_call 17; have st4 := st3; clear st3; refine (KL.out.veil _ x' bb (by omega)).mono ?_; rw [Q4.out]; rintro e w9 ⟨rfl, b9⟩; have bb := bb.trans (b9.mono bb.size))
      | (go_at_call 17; have st5 := st4; clear st4; refine (KL.out.veil _ doc bb (by omega)).mono ?_; rw [Q5.out]; rintro e w9 ⟨rfl, b9⟩; have bb := bb.trans (b9.mono bb.size))
      | (go_at_call 17; have st6 := st5; clear st5; refine (KA.out.veil _ doc bb (by omega)).mono ?_; rw [Q1.out]; rintro e w9 ⟨rfl, b9⟩; have bb := bb.trans (b9.mono bb.size))
      | (go_at_call 17; have st7 := st6; clear st6; refine (KB.out.veil _ x' bb (by omega)).mono ?_; rw [Q6.out]; rintro e w9 ⟨rfl, b9⟩; have bb := bb.trans (b9.mono bb.size))
      | (go_at_call 17; have st8 := st7; clear st7; refine (KA.out.veil _ z bb (by omega)).mono ?_; rw [Q7.out]; rintro e w9 ⟨rfl, b9⟩; have bb := bb.trans (b9.mono bb.size))
      | (go_at_call 17; have st9 := st8; clear st8; refine (KB.out.veil _ doc bb (by omega)).mono ?_; rw [Q8.out]; rintro e w9 ⟨rfl, b9⟩; have bb := bb.trans (b9.mono bb.size))
      | (go_at_call 17; have st10 := st9; clear st9; refine (KA.out.veil _ u bb (by omega)).mono ?_; rw [Q9.out]; rintro e w9 ⟨rfl, b9⟩; have bb := bb.trans (b9.mono bb.size))
      | (go_at_call 17; have st11 := st10; clear st10; refine (KA.out.veil _ doc bb (by omega)).mono ?_; rw [Q1.out]; rintro e w9 ⟨rfl, b9⟩; have bb := bb.trans (b9.mono bb.size))
      | (go_at_call 17; have st12 := st11; clear st11; refine (KB.out.veil _ x' bb (by omega)).mono ?_; rw [Q6.out]; rintro e w9 ⟨rfl, b9⟩; have bb := bb.trans (b9.mono bb.size))
      | (go_at_call 17; have st13 := st12; clear st12; refine (KB.out.veil _ doc bb (by omega)).mono ?_; rw [Q8.out]; rintro e w9 ⟨rfl, b9⟩; have bb := bb.trans (b9.mono bb.size))
      | (go_at_call 17; have st14 := st13; clear st13; refine (KA.out.veil _ u bb (by omega)).mono ?_; rw [Q9.out]; rintro e w9 ⟨rfl, b9⟩; have bb := bb.trans (b9.mono bb.size)))
    go_ret
    exact ⟨by simp, bw8.trans (bb.mono bw8.size)⟩
end Go.Proofs.YteeoohnkfdffnaaGreatDoor
