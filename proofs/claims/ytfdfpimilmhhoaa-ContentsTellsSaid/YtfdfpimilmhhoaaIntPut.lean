/-
  The Book's texts: marks are put into every list.
-/
import Derived.Test.YtfdfpimilmhhoaaIntRows2
namespace Go.Proofs.Ytfdfpimilmhhoaa
open Go.RowKit
set_option linter.unusedVariables false

/-- the list number i, marked -/
def imarkR (i : Nat) (r : IRow) : IRow := ⟨r.a, r.c, imarksT i 0 r.xs.length⟩
/-- the first i marked -/
def IMarkTo (i : Nat) (ls rs : List IRow) : Prop := rs.length = ls.length ∧ ∀ j, rs[j]? = (ls[j]?).map fun r => if j < i then imarkR j r else r
theorem IMarkTo.zero (ls : List IRow) : IMarkTo 0 ls ls := ⟨rfl, fun j => by cases ls[j]? <;> simp⟩
theorem IMarkTo.step {i : Nat} {ls rs : List IRow} {r : IRow} (h : IMarkTo i ls rs) (hr : ls[i]? = some r) : IMarkTo (i + 1) ls (rs.set i (imarkR i r)) := by
  refine ⟨by rw [List.length_set]; exact h.1, fun j => ?_⟩
  have hil := (List.getElem?_eq_some_iff.1 hr).1
  rw [List.getElem?_set]
  split
  · rename_i e
    subst e
    rw [if_pos (by rw [h.1]; exact hil), hr]
    simp
  · rename_i e
    rw [h.2 j]
    cases ls[j]? with
    | none => rfl
    | some s =>
      have : (j < i + 1) ↔ (j < i) := by omega
      simp [this]

set_option maxHeartbeats 4000000 in
set_option maxRecDepth 100000 in
theorem putInts_any (w : World) (base g m : Nat) (ls ws : List IRow) (h : IBk w base g ls ws) (hT : IRows w base ls) (hm : ls.length = m) (hmx : m ≤ 250) (hsz : ∀ r ∈ ls, r.xs.length ≤ 500000) (hbw : base ≤ w.heap.size) :
    Calls Try.prog 48 #[.pointer (some ⟨g, 0, none⟩)] w fun e w' => e = .returned (.tuple #[]) ∧ ∃ rs, IMarkTo m ls rs ∧ IRows w' base rs ∧ IBk w' base g ls ws ∧ Below base w w' ∧ w.heap.size ≤ w'.heap.size := by
  have HM := Lib.hid hm
  have HSZ := Lib.hid hsz
  clear hm hsz
  go_enter Try.func48, Try.ntmps48
  go_wp2_with fail
  go_loopw [2] (fun s2 wr => ∃ (i : Nat) (rs : List IRow), i ≤ m ∧ s2 = .int .i64 (i : Int) ∧ IMarkTo i ls rs ∧ IRows wr base rs ∧ IBk wr base g ls ws ∧ Below base w wr ∧ w.heap.size ≤ wr.heap.size) (fun s2 _ => m - (intOf s2).toNat)
  case atStart => exact ⟨0, ls, Nat.zero_le _, rfl, IMarkTo.zero ls, hT, h, Below.refl _ _, Nat.le_refl _⟩
  case round =>
    clear h hT
    obtain ⟨i, rs, hi, rfl, hMK, hT, hBk, hb, hzw⟩ := hrel
    have HBK := Lib.hid (fun W (b : Below wr.heap.size wr W) => hBk.below b (Nat.le_refl _))
    obtain ⟨hbg, A1, c1, A2, c2, hB, hO1, hO2, hs12⟩ := hBk
    rw [HM.out] at hB hO1
    have k0 : wr.cell? ⟨g, 0 + 2, none⟩ = some (.slice A1 m c1) := hB.cell 2
    have HMK := Lib.hid hMK
    clear hMK
    by_cases hlt : i < m
    · obtain ⟨r, hr⟩ : ∃ r, ls[i]? = some r := ⟨_, List.getElem?_eq_getElem (by have := HM.out; omega)⟩
      have hrr : rs[i]? = some r := by rw [HMK.out.2 i, hr]; simp
      obtain ⟨q1, rfl, _, _⟩ := hO1.some_ (by omega)
      obtain ⟨n, hn⟩ : ∃ n, r.xs.length = n := ⟨_, rfl⟩
      have k2 : wr.cell? ⟨q1, i, none⟩ = some (.slice r.a n r.c) := by have := hO1.cell (irowCells_get hr); rw [← hn]; exact this
      have hn5 : n ≤ 500000 := by rw [← hn]; exact HSZ.out r (List.mem_of_getElem? hr)
      have HN := Lib.hid hn
      have HR := Lib.hid hr
      have HRR := Lib.hid hrr
      have HMKT := Lib.hid (markInts_any i 0 n wr (by omega) (by omega))
      have hq1l := (hO1.lt rfl).2
      have hgl := hB.lt
      simp only at hq1l
      clear hn hr hrr
      go_upto_region 4 with (go_at_call 93; refine HMKT.out.mono ?_; rintro e w1 ⟨M, cM, rfl, hM, b1⟩)
      have hT1 := hT.below b1 (Nat.le_refl _)
      have hBk1 := HBK.out w1 b1
      have hb1 := hb.trans (b1.mono (by omega))
      have hz1 := b1.size
      have HBS : Hid (∀ p ∈ rs, ∀ a, p.a = some a → a.block < wr.heap.size) := Lib.hid fun p hp a ha => ((hT.1 p hp).lt ha).2
      clear hT hB hO1 hO2 k0 k2 b1
      go_wp2_with fail
      go_loopw [4] (fun s4 wv => ∃ k : Nat, k ≤ n ∧ s4 = .int .i64 (k : Int) ∧ IRows wv base (rs.set i ⟨r.a, r.c, (imarksT i 0 n).take k ++ r.xs.drop k⟩) ∧ IBk wv base g ls ws ∧ Own wv wr.heap.size 3 1 M n cM (inCells (imarksT i 0 n)) ∧ Below base w wv ∧ w1.heap.size ≤ wv.heap.size) (fun s4 _ => n - (intOf s4).toNat)
      case atStart =>
        refine ⟨0, Nat.zero_le _, rfl, ?_, hBk1, hM, hb1, Nat.le_refl _⟩
        have : rs.set i ⟨r.a, r.c, (imarksT i 0 n).take 0 ++ r.xs.drop 0⟩ = rs := by
          apply List.ext_getElem?
          intro j
          rw [List.getElem?_set]
          split
          · rename_i e
            subst e
            have hl := (List.getElem?_eq_some_iff.1 HRR.out).1
            rw [if_pos hl, HRR.out]
            simp
          · rfl
        rw [this]
        exact hT1
      case round =>
        clear hT1 hBk1 hM hb1
        obtain ⟨k, hk, rfl, hT, hBk, hM, hb, hzv⟩ := hrel
        have HBK2 := Lib.hid hBk
        obtain ⟨hbg, A1, c1, A2, c2, hB, hO1, hO2, hs12⟩ := hBk
        rw [HM.out] at hB hO1
        have hlrs : i < rs.length := (List.getElem?_eq_some_iff.1 HRR.out).1
        by_cases hk2 : k < n
        · have h1 : (rs.set i ⟨r.a, r.c, (imarksT i 0 n).take k ++ r.xs.drop k⟩)[i]? = some ⟨r.a, r.c, (imarksT i 0 n).take k ++ r.xs.drop k⟩ := by rw [List.getElem?_set]; simp [hlrs]
          have hlen : ((imarksT i 0 n).take k ++ r.xs.drop k).length = n := by
            simp only [List.length_append, List.length_take, List.length_drop, imarksT_len, HN.out]; omega
          have hrow := hT.at_ h1
          simp only [hlen] at hrow
          obtain ⟨q, hq, hq1, hq2⟩ := hrow.some_ (by omega)
          rw [hq] at hrow
          obtain ⟨qm, rfl, hqm1, hqm2⟩ := hM.some_ (by omega)
          obtain ⟨q1, rfl, _, _⟩ := hO1.some_ (by omega)
          have k0 : wr.cell? ⟨g, 0 + 2, none⟩ = some (.slice (some ⟨q1, 0, none⟩) m c1) := hB.cell 2
          have k2 : wr.cell? ⟨q1, i, none⟩ = some (.slice (some ⟨q, 0, none⟩) n r.c) := by
            have := hO1.cell (irowCells_get HR.out)
            simpa [IRow.cell, HN.out, hq] using this
          have hmk : (imarksT i 0 n)[k]? = some (inameT i k) := by simp [imarksT, hk2]
          have k3 : wr.cell? ⟨qm, k, none⟩ = some (.int .i64 (inameT i k)) := hM.cell (by simp [inCells, hmk])
          obtain ⟨old, hold⟩ : ∃ old, ((imarksT i 0 n).take k ++ r.xs.drop k)[k]? = some old := ⟨_, List.getElem?_eq_getElem (by omega)⟩
          have k4 : wr.cell? ⟨q, k, none⟩ = some (.int .i64 old) := hrow.cell (by simp only [inCells, List.getElem?_map, hold]; rfl)
          have k5 : wr.frozen? ⟨q, k, none⟩ = false := hrow.frozen k
          have hqlt := HBS.out r (List.mem_of_getElem? HRR.out) _ hq
          simp only at hqlt
          have hTn := hT.store h1 hq k (inameT i k)
          have hBn := (HBK2.out).store hrow k (.int .i64 (inameT i k))
          have hMn := hM.only (only_setCell wr q k (.int .i64 (inameT i k))) (fun a b ha hb2 => by injection ha with ha; injection hb2 with hb2; rw [← ha, ← hb2]; simp only; omega)
          have hbn : Below base w (wr.setCell ⟨q, k, none⟩ (.int .i64 (inameT i k))) := hb.setCell (p := ⟨q, k, none⟩) (by exact hq1) _
          have hXS : ((imarksT i 0 n).take k ++ r.xs.drop k).set k (inameT i k) = (imarksT i 0 n).take (k + 1) ++ r.xs.drop (k + 1) := by
            apply List.ext_getElem?
            intro j
            rw [List.getElem?_set]
            split
            · rename_i e
              subst e
              rw [List.getElem?_append_left (by simp only [List.length_take, imarksT_len]; omega), List.getElem?_take, if_pos (by omega), hmk, if_pos (by omega)]
            · rename_i e
              by_cases hj : j < k
              · rw [List.getElem?_append_left (by simp only [List.length_take, imarksT_len]; omega), List.getElem?_append_left (by simp only [List.length_take, imarksT_len]; omega), List.getElem?_take, List.getElem?_take, if_pos hj, if_pos (by omega)]
              · rw [List.getElem?_append_right (by simp only [List.length_take, imarksT_len]; omega), List.getElem?_append_right (by simp only [List.length_take, imarksT_len]; omega), List.getElem?_drop, List.getElem?_drop]
                simp only [List.length_take, imarksT_len]
                congr 1
                omega
          rw [hXS, List.set_set] at hTn
          have HTn := Lib.hid hTn
          have HBn := Lib.hid hBn
          have HMn := Lib.hid hMn
          have HZ : Hid (w1.heap.size ≤ wr.heap.size) := Lib.hid hzv
          clear hTn hBn hMn hXS hq hmk hold hlen hT hM hrow h1 hB hO1 hO2 hs12 HBS
          go_upto_region 7 with fail
          go_still_tail 13, (by kernel_rfl)
          change wpList _ _ _ _ _ wr.drew
          go_wp2_with fail
          go_roundw
          case rel => exact ⟨k + 1, by omega, by go_num, HTn.out, HBn.out.below (Below.refl _ _).drew (Nat.le_refl _), HMn.out, hbn.drew, by simpa [World.setCell] using HZ.out⟩
          case measure => simp [intOf]; omega
        · have hkn : k = n := by omega
          subst hkn
          have hrsn : rs.set i ⟨r.a, r.c, (imarksT i 0 k).take k ++ r.xs.drop k⟩ = rs.set i (imarkR i r) := by
            congr 1
            unfold imarkR
            rw [HN.out, List.take_of_length_le (by rw [imarksT_len]; omega), List.drop_of_length_le (by rw [HN.out]; omega), List.append_nil]
          rw [hrsn] at hT
          have HT := Lib.hid hT
          clear hrsn hT
          go_wp2_with fail
          go_roundw
          case rel => exact ⟨i + 1, _, by omega, by go_num, HMK.out.step HR.out, HT.out, HBK2.out, hb, by omega⟩
          case measure => simp [intOf]; omega
    · have him : i = m := by omega
      subst him
      go_wp2_with fail
      go_end0
      exact ⟨rfl, rs, HMK.out, hT, ⟨hbg, A1, c1, A2, c2, by rw [HM.out]; exact hB, by rw [HM.out]; exact hO1, hO2, hs12⟩, hb, hzw⟩
end Go.Proofs.Ytfdfpimilmhhoaa
