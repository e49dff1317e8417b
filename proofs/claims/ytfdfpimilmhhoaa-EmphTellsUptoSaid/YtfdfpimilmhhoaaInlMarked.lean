/-
  bowdlerbook.markedInls: all are the marks that were put.
-/
import Derived.Test.YtfdfpimilmhhoaaInlGrow
import Derived.Deep.RegionHeld3
namespace Go.Proofs.Ytfdfpimilmhhoaa
open Go.RowKit
set_option linter.unusedVariables false

set_option maxHeartbeats 4000000 in
set_option maxRecDepth 100000 in
theorem markedInls_any (w : World) (base K m c : Nat) (A : Option Addr) (os : List LRow) (hA : Reads w K 1 A m (lrowCells os)) (hK : K ≤ w.heap.size) (hT : LOwn w base os) (hm : os.length = m) (hmx : m ≤ 250) (hmk : ∀ j o, os[j]? = some o → o.xs = lmarksT j 0 o.xs.length ∧ o.xs.length ≤ 600000) :
    Calls Try.prog 65 #[.slice A m c] w fun e w' => e = .returned (.bool true) ∧ Below w.heap.size w w' := by
  have HA := Lib.hid hA
  have HT := Lib.hid hT
  have HM := Lib.hid hm
  have HMK := Lib.hid hmk
  clear hA hT hm hmk
  go_enter Try.func65, Try.ntmps65
  go_wp2_with fail
  go_loopw [3] (fun s3 wr => ∃ k : Nat, k ≤ m ∧ s3 = .int .i64 (k : Int) ∧ Below w.heap.size w wr) (fun s3 _ => m - (intOf s3).toNat)
  case atStart => exact ⟨0, Nat.zero_le _, rfl, Below.refl _ _⟩
  case round =>
    obtain ⟨k, hk, rfl, hb⟩ := hrel
    by_cases hlt : k < m
    · obtain ⟨r, hr⟩ : ∃ r, os[k]? = some r := ⟨_, List.getElem?_eq_getElem (by have := HM.out; omega)⟩
      obtain ⟨n, hn⟩ : ∃ n, r.xs.length = n := ⟨_, rfl⟩
      have hrd := HA.out.below (hb.mono hK)
      obtain ⟨ad, rfl, hadK, hcells⟩ := hrd.2 (by omega)
      have k2 : wr.cell? (ad.add k) = some (.slice r.a n r.c) := by have := hcells k _ (lrowCells_get hr); rw [← hn]; exact this
      have hT2 := (HT.out.below hb (Nat.le_refl _)) r (List.mem_of_getElem? hr)
      obtain ⟨e1, e2⟩ := HMK.out k r hr
      rw [hn] at hT2 e1 e2
      rw [e1] at hT2
      have HO := Lib.hid hT2
      clear hT2 e1 hn hr hcells hrd
      have HMK1 := Lib.hid (fun W => markInls_any k 0 n W (by omega) (by omega))
      have hadl : ad.block < wr.heap.size := by have := hb.size; omega
      have hkl : k < n ∨ n ≤ k := Nat.lt_or_ge k n
      have st0 : True := trivial
      go_upto_region 4 with fail
      go_region_held3 (fun w' => w'.cell? (ad.add k) = some (.slice r.a n r.c)) (go_keep)
        (first
          | (have st1 := st0; clear st0; go_at_call 95; refine (HMK1.out _).mono ?_; rintro e w1 ⟨M, cM, rfl, hM, b1⟩; have z0 := (b1.cell (p := ad.add k) (by rw [block_of_add]; exact hadl)).trans k2; have hr1 := (HO.out.below (below_of_drew b1) (Nat.le_refl _)).reads; have hz1 := b1.size)
          | (have st2 := st1; clear st1; go_at_call 25; refine (sameInls_any _ _ _ _ _ _ w1.heap.size _ _ _ (by exact hr1) (by exact hM.reads) (by omega) (by omega)).mono ?_; rintro e w2 ⟨rfl, mm, rfl⟩))
      have hb2 := below_drewN' (hb.trans ((below_of_drew b1).mono hb.size)) mm
      have hd : decide (lmarksT k 0 n = lmarksT k 0 n) = true := decide_eq_true rfl
      go_wp2_with fail
      go_roundw
      case rel => exact ⟨k + 1, by omega, by go_num, by simpa using hb2⟩
      case measure => simp [intOf]; omega
    · have hkm : k = m := by omega
      subst hkm
      go_wp2_with fail
      go_ret
      exact ⟨rfl, hb⟩
end Go.Proofs.Ytfdfpimilmhhoaa
