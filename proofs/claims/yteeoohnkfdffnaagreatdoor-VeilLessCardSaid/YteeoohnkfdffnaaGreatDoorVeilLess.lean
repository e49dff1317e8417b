/-
  bowdlerlaw7.VeilLess: its walk.
-/
import Derived.Test.YteeoohnkfdffnaaGreatDoorVeilUnknowns
import Derived.Test.YteeoohnkfdffnaaGreatDoorVeilLessLaw
import Derived.Test.YteeoohnkfdffnaaGreatDoorFrameL
namespace Go.Proofs.YteeoohnkfdffnaaGreatDoor
open Go.RowKit
set_option linter.unusedVariables false

set_option maxHeartbeats 4000000 in
set_option maxRecDepth 100000 in
theorem veilLess_walk (kk : Int) (doc : ByteArray) (w : World) (hg : Glb w) (_ : (Lit.int .i64 kk).wf = true) (_ : doc.size ≤ 140737488351232) :
    Calls Tryz.prog 7 #[.int .i64 kk, .string doc] w fun e w' => e = .returned (.bool true) ∧ Below w.heap.size w w' := by
  have HG := Lib.hid hg
  by_cases h60 : 1000 < doc.size
  · go_enter Tryz.func7, Tryz.ntmps7
    go_wp2_with (go_at_call 11; refine (alive7_any w HG.out).mono ?_; rintro e w1 ⟨rfl, b1⟩)
    go_ret
    exact ⟨rfl, b1⟩
  · obtain ⟨⟨i, hi, hmod⟩, hb1, hb2⟩ := tmod4 kk
    go_enter Tryz.func7, Tryz.ntmps7
    go_upto_region 4 with (first
      | (go_at_call 11; refine (alive7_any w HG.out).mono ?_; rintro e w1 ⟨rfl, b1⟩)
      | (go_at_call 25; refine (diamond_any w1).mono ?_; rintro e w2 ⟨A, B, rfl, hA, hB, b2⟩))
    have bb2 := b1.trans (b2.mono b1.size)
    have B3 := Blk.new w2 26 #[.slice A 4 4, .slice B 4 4]
    have hA3 := (hA.alloc (Nat.le_refl _) (.cells #[.slice A 4 4, .slice B 4 4] 26)).up (K' := (w2.alloc (.cells #[.slice A 4 4, .slice B 4 4] 26)).heap.size) (by simp)
    have hB3 := (hB.alloc (Nat.le_refl _) (.cells #[.slice A 4 4, .slice B 4 4] 26)).up (K' := (w2.alloc (.cells #[.slice A 4 4, .slice B 4 4] 26)).heap.size) (by simp)
    have bb3 := bb2.alloc bb2.size (.cells #[.slice A 4 4, .slice B 4 4] 26)
    have hgl3 : w2.heap.size < (w2.alloc (.cells #[.slice A 4 4, .slice B 4 4] 26)).heap.size := by simp
    obtain ⟨gd, hgd⟩ : ∃ gd, w2.heap.size = gd := ⟨_, rfl⟩
    rw [hgd] at B3 hgl3
    rw [hgd]
    generalize w2.alloc (.cells #[.slice A 4 4, .slice B 4 4] 26) = w3 at *
    clear hA hB hgd b1 b2 bb2
    obtain ⟨ad, u, rfl, hlt, hx0, hc⟩ := hA3.at_ hi
    obtain ⟨x, hx, rfl⟩ : ∃ x, diaN[i]? = some x ∧ Value.string x = u := by simpa using hx0
    have hxn : nmD i = x := by unfold nmD; rw [List.getD_eq_getElem?_getD, hx]; rfl
    have k0 : w3.cell? ⟨gd, 0, none⟩ = some (.slice (some ad) 4 4) := B3.cell 0
    have k1 : w3.cell? ⟨gd, 0 + 1, none⟩ = some (.slice B 4 4) := B3.cell 1
    have HNEW := Lib.hid (newDia_from (HG.out.below bb3) hA3 hB3 i hi)
    rw [hxn] at HNEW
    have x1 : IntKind.i64.wrap (kk.tmod 4 + 4) = kk.tmod 4 + 4 := IntWalk.i64_in _ (by omega)
    have x2 : (0 : Int) ≤ (i : Int) := by omega
    have x3 : (i : Int) < 4 := by omega
    have x4 : (i : Int).toNat = i := rfl
    clear hx hx0 hxn
    go_region_held3 (fun w' => w'.cell? ⟨gd, 0, none⟩ = some (.slice (some ad) 4 4) ∧ w'.cell? ⟨gd, 0 + 1, none⟩ = some (.slice B 4 4) ∧ w'.cell? (ad.add i) = some (.string x)) (go_keep)
      ((go_at_call 12; refine (HNEW.out _ (below_drewN' (Below.refl _ _) 1)).mono ?_; rintro e w5 ⟨g, rfl, kt, hg5, b5⟩; have z0 := (b5.cell (p := ⟨gd, 0, none⟩) hgl3).trans k0; have z1 := (b5.cell (p := ⟨gd, 0 + 1, none⟩) hgl3).trans k1; have z2 := (b5.cell (p := ad.add i) (by rw [block_of_add]; exact hlt)).trans hc))
    have bb5 : Below w.heap.size w w5 := bb3.trans (b5.mono bb3.size)
    clear x1 x2 x3 x4 hmod hb1 hb2 k0 k1 hc HNEW hA3 hB3 B3 z0 z1 z2
    have KT := Lib.hid kt
    clear kt
    have hzz := bb5.size
    obtain ⟨l1, l2, l3⟩ := less_law (seesT (diaS i)) doc
    rw [← veilT_eq] at l1 l2 l3
    have hts : (S (repT doc)).size ≤ 4000 := by rw [size_S]; have := repT_le doc; omega
    obtain ⟨V, hV⟩ : ∃ V, veilT (diaS i) doc = V := ⟨_, rfl⟩
    obtain ⟨T, hT⟩ : ∃ T, S (repT doc) = T := ⟨_, rfl⟩
    rw [hV] at l1 l2 l3
    rw [hT] at l1 l3 hts
    have HV := Lib.hid hV
    have HT := Lib.hid hT
    have hn1 := linesB_len7 V
    have hn2 := linesB_len7 T
    have HN : Hid ((linesB V).length ≤ (linesB T).length) := Lib.hid l3
    clear hV hT l3
    have bb : Below w5.heap.size w5 w5 := Below.refl _ _
    have HG5 := Lib.hid hg5
    clear hg5
    go_upto_region 9 with (first
      | (go_at_call 26; refine (repair_any doc _ (by omega)).mono ?_; rw [HT.out]; rintro e w6 ⟨rfl, b6⟩; have bb := bb.trans (b6.mono bb.size))
      | (go_at_call 17; refine (KT.out.veil _ doc bb (by omega)).mono ?_; rw [HV.out]; rintro e w7 ⟨rfl, b7⟩; have bb := bb.trans (b7.mono bb.size)))
    have st0 := trivial
    have l1' : (V.size : Int) ≤ (T.size : Int) + 1 := by omega
    by_cases hV0 : V.size = 0
    · obtain rfl := bytes_none hV0
      go_wp2_with (first
        | (go_at_call 27; have st1 := st0; clear st0; refine (split_any ⟨#[]⟩ _ (HG5.out.below bb) (by decide)).mono ?_; rintro e w8 ⟨A8, n8, c8, rfl, o8, b8⟩; have e8 : (linesB ⟨#[]⟩).length = n8 := (by have := o8.len; simpa using this); have bb := bb.trans (b8.mono bb.size))
        | (go_at_call 27; refine (split_any T _ (HG5.out.below bb) (by omega)).mono ?_; rintro e w9 ⟨A9, n9, c9, rfl, o9, b9⟩; have e9 : (linesB T).length = n9 := (by have := o9.len; simpa using this); have hle : (n8 : Int) ≤ (n9 : Int) := (by have := HN.out; omega); have bb := bb.trans (b9.mono bb.size); clear e8 e9))
      go_ret
      exact ⟨by simp, bb5.trans (bb.mono hzz)⟩
    · obtain ⟨p1, p2, p3⟩ := bytes_some hV0
      have hlast : V[V.size - 1]'(by omega) = 10 := by
        rcases l2 with h | h
        · exact absurd (by rw [h]; rfl) hV0
        · rw [List.getLast?_eq_getElem?, length_L] at h
          have h2 := (List.getElem?_eq_some_iff.1 h).2
          exact h2
      have x5 : ((V.size : Int) - 1).toNat = V.size - 1 := by omega
      have x6 : (0 : Int) ≤ (V.size : Int) - 1 := by omega
      have x7 : IntKind.i64.wrap ((V.size : Int) - 1) = ((V.size - 1 : Nat) : Int) := (IntWalk.i64_in _ (by omega)).trans (by omega)
      have x8 : V.size - 1 < V.size := by omega
      go_wp2_with (first
        | (go_at_call 27; have st1 := st0; clear st0; refine (split_any V _ (HG5.out.below bb) (by omega)).mono ?_; rintro e w8 ⟨A8, n8, c8, rfl, o8, b8⟩; have e8 : (linesB V).length = n8 := (by have := o8.len; simpa using this); have bb := bb.trans (b8.mono bb.size))
        | (go_at_call 27; refine (split_any T _ (HG5.out.below bb) (by omega)).mono ?_; rintro e w9 ⟨A9, n9, c9, rfl, o9, b9⟩; have e9 : (linesB T).length = n9 := (by have := o9.len; simpa using this); have hle : (n8 : Int) ≤ (n9 : Int) := (by have := HN.out; omega); have bb := bb.trans (b9.mono bb.size); clear e8 e9))
      go_ret
      exact ⟨by simp, bb5.trans (bb.mono hzz)⟩
end Go.Proofs.YteeoohnkfdffnaaGreatDoor
