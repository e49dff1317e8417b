/-
  The Book's texts: marks are put into every list.
-/
import Derived.Test.YtfdfpimilmhhoaaInlRows2
namespace Go.Proofs.Ytfdfpimilmhhoaa
open Go.RowKit
set_option linter.unusedVariables false

/-- the list number i, marked -/
def lmarkR (i : Nat) (r : LRow) : LRow := ⟨r.a, r.c, lmarksT i 0 r.xs.length⟩
/-- the first i marked -/
def LMarkTo (i : Nat) (ls rs : List LRow) : Prop := rs.length = ls.length ∧ ∀ j, rs[j]? = (ls[j]?).map fun r => if j < i then lmarkR j r else r
theorem LMarkTo.zero (ls : List LRow) : LMarkTo 0 ls ls := ⟨rfl, fun j => by cases ls[j]? <;> simp⟩
theorem LMarkTo.step {i : Nat} {ls rs : List LRow} {r : LRow} (h : LMarkTo i ls rs) (hr : ls[i]? = some r) : LMarkTo (i + 1) ls (rs.set i (lmarkR i r)) := by
  refine ⟨by rw [List.length_set]; exact h.1, fun j => ?_⟩
  have hil := (List.getElem?_eq_some_iff.1 hr).1
  rw [List.getElem?_set]
  split
  · rename_i e
    subst e
    rw [if_pos (by rw [h.1]; exact hil), hr]
    simp
  · rename_i e
    rw [h.2 j]
    cases ls[j]? with
    | none => rfl
    | some s =>
      have : (j < i + 1) ↔ (j < i) := by omega
      simp [this]

set_option maxHeartbeats 4000000 in
set_option maxRecDepth 100000 in
theorem putInls_any (w : World) (base g m : Nat) (ls ws : List LRow) (h : LBk w base g ls ws) (hT : LRows w base ls) (hm : ls.length = m) (hmx : m ≤ 250) (hsz : ∀ r ∈ ls, r.xs.length ≤ 500000) (hbw : base ≤ w.heap.size) :
    Calls Try.prog 50 #[.pointer (some ⟨g, 0, none⟩)] w fun e w' => e = .returned (.tuple #[]) ∧ ∃ rs, LMarkTo m ls rs ∧ LRows w' base rs ∧ LBk w' base g ls ws ∧ Below base w w' ∧ w.heap.size ≤ w'.heap.size := by
  have HM := Lib.hid hm
  have HSZ := Lib.hid hsz
  clear hm hsz
  go_enter Try.func50, Try.ntmps50
  go_wp2_with fail
  go_loopw [2] (fun s2 wr => ∃ (i : Nat) (rs : List LRow), i ≤ m ∧ s2 = .int .i64 (i : Int) ∧ LMarkTo i ls rs ∧ LRows wr base rs ∧ LBk wr base g ls ws ∧ Below base w wr ∧ w.heap.size ≤ wr.heap.size) (fun s2 _ => m - (intOf s2).toNat)
  case atStart => exact ⟨0, ls, Nat.zero_le _, rfl, LMarkTo.zero ls, hT, h, Below.refl _ _, Nat.le_refl _⟩
  case round =>
    clear h hT
    obtain ⟨i, rs, hi, rfl, hMK, hT, hBk, hb, hzw⟩ := hrel
    have HBK := Lib.hid (fun W (b : Below wr.heap.size wr W) => hBk.below b (Nat.le_refl _))
    obtain ⟨hbg, A1, c1, A2, c2, hB, hO1, hO2, hs12⟩ := hBk
    rw [HM.out] at hB hO1
    have k0 : wr.cell? ⟨g, 0 + 6, none⟩ = some (.slice A1 m c1) := hB.cell 6
    have HMK := Lib.hid hMK
    clear hMK
    by_cases hlt : i < m
    · obtain ⟨r, hr⟩ : ∃ r, ls[i]? = some r := ⟨_, List.getElem?_eq_getElem (by have := HM.out; omega)⟩
      have hrr : rs[i]? = some r := by rw [HMK.out.2 i, hr]; simp
      obtain ⟨q1, rfl, _, _⟩ := hO1.some_ (by omega)
      obtain ⟨n, hn⟩ : ∃ n, r.xs.length = n := ⟨_, rfl⟩
      have k2 : wr.cell? ⟨q1, i, none⟩ = some (.slice r.a n r.c) := by have := hO1.cell (lrowCells_get hr); rw [← hn]; exact this
      have hn5 : n ≤ 500000 := by rw [← hn]; exact HSZ.out r (List.mem_of_getElem? hr)
      have HN := Lib.hid hn
      have HR := Lib.hid hr
      have HRR := Lib.hid hrr
      have HMKT := Lib.hid (markInls_any i 0 n wr (by omega) (by omega))
      have hq1l := (hO1.lt rfl).2
      have hgl := hB.lt
      simp only at hq1l
      clear hn hr hrr
      go_upto_region 4 with (go_at_call 95; refine HMKT.out.mono ?_; rintro e w1 ⟨M, cM, rfl, hM, b1⟩)
      have hT1 := hT.below b1 (Nat.le_refl _)
      have hBk1 := HBK.out w1 b1
      have hb1 := hb.trans (b1.mono (by omega))
      have hz1 := b1.size
      have HBS : Hid (∀ p ∈ rs, ∀ a, p.a = some a → a.block < wr.heap.size) := Lib.hid fun p hp a ha => ((hT.1 p hp).lt ha).2
      clear hT hB hO1 hO2 k0 k2 b1
      go_wp2_with fail
      go_loopw [4] (fun s4 wv => ∃ k : Nat, k ≤ n ∧ s4 = .int .i64 (k : Int) ∧ LRows wv base (rs.set i ⟨r.a, r.c, (lmarksT i 0 n).take k ++ r.xs.drop k⟩) ∧ LBk wv base g ls ws ∧ Own wv wr.heap.size 95 5 M n cM (inlCells (lmarksT i 0 n)) ∧ Below base w wv ∧ w1.heap.size ≤ wv.heap.size) (fun s4 _ => n - (intOf s4).toNat)
      case atStart =>
        refine ⟨0, Nat.zero_le _, rfl, ?_, hBk1, hM, hb1, Nat.le_refl _⟩
        have : rs.set i ⟨r.a, r.c, (lmarksT i 0 n).take 0 ++ r.xs.drop 0⟩ = rs := by
          apply List.ext_getElem?
          intro j
          rw [List.getElem?_set]
          split
          · rename_i e
            subst e
            have hl := (List.getElem?_eq_some_iff.1 HRR.out).1
            rw [if_pos hl, HRR.out]
            simp
          · rfl
        rw [this]
        exact hT1
      case round =>
        clear hT1 hBk1 hM hb1
        obtain ⟨k, hk, rfl, hT, hBk, hM, hb, hzv⟩ := hrel
        have HBK2 := Lib.hid hBk
        obtain ⟨hbg, A1, c1, A2, c2, hB, hO1, hO2, hs12⟩ := hBk
        rw [HM.out] at hB hO1
        have hlrs : i < rs.length := (List.getElem?_eq_some_iff.1 HRR.out).1
        by_cases hk2 : k < n
        · have h1 : (rs.set i ⟨r.a, r.c, (lmarksT i 0 n).take k ++ r.xs.drop k⟩)[i]? = some ⟨r.a, r.c, (lmarksT i 0 n).take k ++ r.xs.drop k⟩ := by rw [List.getElem?_set]; simp [hlrs]
          have hlen : ((lmarksT i 0 n).take k ++ r.xs.drop k).length = n := by
            simp only [List.length_append, List.length_take, List.length_drop, lmarksT_len, HN.out]; omega
          have hrow := hT.at_ h1
          simp only [hlen] at hrow
          obtain ⟨q, hq, hq1, hq2⟩ := hrow.some_ (by omega)
          rw [hq] at hrow
          obtain ⟨qm, rfl, hqm1, hqm2⟩ := hM.some_ (by omega)
          obtain ⟨q1, rfl, _, _⟩ := hO1.some_ (by omega)
          have k0 : wr.cell? ⟨g, 0 + 6, none⟩ = some (.slice (some ⟨q1, 0, none⟩) m c1) := hB.cell 6
          have k2 : wr.cell? ⟨q1, i, none⟩ = some (.slice (some ⟨q, 0, none⟩) n r.c) := by
            have := hO1.cell (lrowCells_get HR.out)
            simpa [LRow.cell, HN.out, hq] using this
          have hmk : (lmarksT i 0 n)[k]? = some (lnameT i k) := by simp [lmarksT, hk2]
          have k3 : ∀ j, j < 5 → wr.cell? ⟨qm, k * 5 + j, none⟩ = (lnameT i k).cells[j]? := fun j hj => by
            have h1 := flat_get Inl.cells 5 inl_len (lmarksT i 0 n) k j hj hmk
            obtain ⟨u, hu⟩ : ∃ u, (lnameT i k).cells[j]? = some u := ⟨_, List.getElem?_eq_getElem hj⟩
            rw [hu]
            exact hM.cell (by rw [h1, hu])
          have m0 : wr.cell? ⟨qm, k * 5, none⟩ = some (.int .i64 0) := k3 0 (by omega)
          have m1 : wr.cell? ⟨qm, k * 5 + 1, none⟩ = some (.int .i64 (-1000 * (i : Int) - (k : Int) - 1)) := k3 1 (by omega)
          have m2 : wr.cell? ⟨qm, k * 5 + 2, none⟩ = some (.string ⟨#[]⟩) := k3 2 (by omega)
          have m3 : wr.cell? ⟨qm, k * 5 + 3, none⟩ = some (.string ⟨#[]⟩) := k3 3 (by omega)
          have m4 : wr.cell? ⟨qm, k * 5 + 4, none⟩ = some (.string ⟨#[]⟩) := k3 4 (by omega)
          clear k3
          obtain ⟨old, hold⟩ : ∃ old, ((lmarksT i 0 n).take k ++ r.xs.drop k)[k]? = some old := ⟨_, List.getElem?_eq_getElem (by omega)⟩
          have k4 : ∀ j, j < 5 → wr.cell? ⟨q, k * 5 + j, none⟩ = old.cells[j]? := fun j hj => by
            have h2 := flat_get Inl.cells 5 inl_len _ k j hj hold
            obtain ⟨u, hu⟩ : ∃ u, old.cells[j]? = some u := ⟨_, List.getElem?_eq_getElem hj⟩
            rw [hu]
            exact hrow.cell (by rw [h2, hu])
          have o0 : wr.cell? ⟨q, k * 5, none⟩ = some (.int .i64 old.kind) := k4 0 (by omega)
          have o1 : wr.cell? ⟨q, k * 5 + 1, none⟩ = some (.int .i64 old.depth) := k4 1 (by omega)
          have o2 : wr.cell? ⟨q, k * 5 + 2, none⟩ = some (.string old.text) := k4 2 (by omega)
          have o3 : wr.cell? ⟨q, k * 5 + 3, none⟩ = some (.string old.url) := k4 3 (by omega)
          have o4 : wr.cell? ⟨q, k * 5 + 4, none⟩ = some (.string old.title) := k4 4 (by omega)
          have z0 : wr.frozen? ⟨q, k * 5, none⟩ = false := hrow.frozen _
          have z1 : wr.frozen? ⟨q, k * 5 + 1, none⟩ = false := hrow.frozen _
          have z2 : wr.frozen? ⟨q, k * 5 + 2, none⟩ = false := hrow.frozen _
          have z3 : wr.frozen? ⟨q, k * 5 + 3, none⟩ = false := hrow.frozen _
          have z4 : wr.frozen? ⟨q, k * 5 + 4, none⟩ = false := hrow.frozen _
          clear k4
          have hqlt := HBS.out r (List.mem_of_getElem? HRR.out) _ hq
          simp only at hqlt
          have hTn := hT.store h1 hq k (by rw [hlen]; exact hk2) (lnameT i k)
          have hBn := (HBK2.out).store hrow k (lnameT i k)
          have hMn := hM.only (only_set5 wr q k (lnameT i k)) (fun a b ha hb2 => by injection ha with ha; injection hb2 with hb2; rw [← ha, ← hb2]; simp only; omega)
          have hbn : Below base w (set5 wr q k (lnameT i k)) := hb.trans ((only_set5 wr q k (lnameT i k)).below (fun a ha => by injection ha with ha; rw [← ha]; exact hq1) (by omega))
          have hXS : ((lmarksT i 0 n).take k ++ r.xs.drop k).set k (lnameT i k) = (lmarksT i 0 n).take (k + 1) ++ r.xs.drop (k + 1) := by
            apply List.ext_getElem?
            intro j
            rw [List.getElem?_set]
            split
            · rename_i e
              subst e
              rw [List.getElem?_append_left (by simp only [List.length_take, lmarksT_len]; omega), List.getElem?_take, if_pos (by omega), hmk, if_pos (by omega)]
            · rename_i e
              by_cases hj : j < k
              · rw [List.getElem?_append_left (by simp only [List.length_take, lmarksT_len]; omega), List.getElem?_append_left (by simp only [List.length_take, lmarksT_len]; omega), List.getElem?_take, List.getElem?_take, if_pos hj, if_pos (by omega)]
              · rw [List.getElem?_append_right (by simp only [List.length_take, lmarksT_len]; omega), List.getElem?_append_right (by simp only [List.length_take, lmarksT_len]; omega), List.getElem?_drop, List.getElem?_drop]
                simp only [List.length_take, lmarksT_len]
                congr 1
                omega
          rw [hXS, List.set_set] at hTn
          have HTn := Lib.hid hTn
          have HBn := Lib.hid hBn
          have HMn := Lib.hid hMn
          have HZ : Hid (w1.heap.size ≤ wr.heap.size) := Lib.hid hzv
          clear hTn hBn hMn hXS hq hmk hold hlen hT hM hrow h1 hB hO1 hO2 hs12 HBS
          go_upto_region 7 with fail
          go_still_tail 13, (by kernel_rfl)
          change wpList _ _ _ _ _ wr.drew
          go_wp2_with fail
          go_roundw
          case rel => exact ⟨k + 1, by omega, by go_num, HTn.out, HBn.out.below (Below.refl _ _).drew (Nat.le_refl _), HMn.out, hbn.drew, by simpa [World.setCell] using HZ.out⟩
          case measure => simp [intOf]; omega
        · have hkn : k = n := by omega
          subst hkn
          have hrsn : rs.set i ⟨r.a, r.c, (lmarksT i 0 k).take k ++ r.xs.drop k⟩ = rs.set i (lmarkR i r) := by
            congr 1
            unfold lmarkR
            rw [HN.out, List.take_of_length_le (by rw [lmarksT_len]; omega), List.drop_of_length_le (by rw [HN.out]; omega), List.append_nil]
          rw [hrsn] at hT
          have HT := Lib.hid hT
          clear hrsn hT
          go_wp2_with fail
          go_roundw
          case rel => exact ⟨i + 1, _, by omega, by go_num, HMK.out.step HR.out, HT.out, HBK2.out, hb, by omega⟩
          case measure => simp [intOf]; omega
    · have him : i = m := by omega
      subst him
      go_wp2_with fail
      go_end0
      exact ⟨rfl, rs, HMK.out, hT, ⟨hbg, A1, c1, A2, c2, by rw [HM.out]; exact hB, by rw [HM.out]; exact hO1, hO2, hs12⟩, hb, hzw⟩
end Go.Proofs.Ytfdfpimilmhhoaa
