/-
  bowdlerref14.Reader.
-/
import Derived.Test.YtgdnphmannbpgaaGreatDoorRefOrders
import Derived.Test.YtgdnphmannbpgaaGreatDoorGO
namespace Go.Proofs.YtgdnphmannbpgaaGreatDoor
open Go.RowKit
set_option linter.unusedVariables false

set_option maxHeartbeats 4000000 in
set_option maxRecDepth 100000 in
theorem refReader_any (A B : Option Addr) (n c n2 c2 K : Nat) (xs : List ByteArray) (ps : List (Int × Int)) (x : ByteArray) (w : World) (hr : Reads w K 1 A n (txCells xs)) (hr2 : Reads w K 2 B n2 (prCells ps)) (hK : K ≤ w.heap.size)
    (hn2 : n2 ≤ 1048576) (hrt : rightT xs ps = true) :
    Calls Tryz.prog 7 #[.slice A n c, .slice B n2 c2, .string x] w fun e w' => Below w.heap.size w w' ∧
      ((∃ k : Int, newV xs ps x = (k, none) ∧ e = .returned (.tuple #[.pointer none, .int .i64 k])) ∨ ∃ s g, newV xs ps x = (0, some s) ∧ e = .returned (.tuple #[.pointer (some ⟨g, 0, none⟩), .int .i64 0]) ∧ RSeerR w' w'.heap.size g s) := by
  have hlen : xs.length = n := by have := hr.1; simpa using this
  obtain ⟨h1, h2, h3⟩ := right_ok hrt
  have HO := Lib.hid (orders_any B n n2 c2 K ps w (by omega) (by omega) hr2 hK hn2 (by rw [← hlen]; exact h3))
  have hnv : newV xs ps x = match newT xs.length ps with
    | none => (1, none)
    | some t => if idxT xs x < 0 then (2, none) else (0, some ⟨xs, t, (idxT xs x).toNat⟩) := by unfold newV; rw [if_pos hrt]; cases newT xs.length ps <;> rfl
  have h64 : n ≤ 64 := by omega
  rw [hlen] at hnv
  have HNV := Lib.hid hnv
  have HL := Lib.hid hlen
  clear hnv hlen h1 h2 h3
  cases ht : newT n ps with
  | none =>
    have HR : Hid (newV xs ps x = (1, none)) := Lib.hid (by rw [HNV.out, ht])
    have HT := Lib.hid ht
    clear ht
    go_enter Tryz.func7, Tryz.ntmps7
    go_wp2_with (go_at_call 24; refine HO.out.mono ?_; rintro e w1 ⟨b1, h5⟩; obtain ⟨rfl⟩ : e = .returned (.tuple #[.pointer none, .int .i64 1]) := (by rcases h5 with ⟨_, h⟩ | ⟨_, _, h, _⟩; exact h; rw [HT.out] at h; cases h))
    go_ret2
    exact ⟨b1, .inl ⟨1, HR.out, rfl⟩⟩
  | some t =>
    have HT := Lib.hid ht
    have HNV2 : Hid (newV xs ps x = if idxT xs x < 0 then (2, none) else (0, some ⟨xs, t, (idxT xs x).toNat⟩)) := Lib.hid (by rw [HNV.out, ht])
    clear ht
    have hio := idxT_lt xs x
    have HAT := Lib.hid (fun W (b : Below w.heap.size w W) => refAt_any A n c K xs x W (hr.below (b.mono hK)) (by omega))
    by_cases hi : idxT xs x < 0
    · have HR : Hid (newV xs ps x = (2, none)) := Lib.hid (by rw [HNV2.out, if_pos hi])
      have d1 : decide (idxT xs x < 0) = true := decide_eq_true hi
      clear hio
      generalize idxT xs x = ix at *
      go_enter Tryz.func7, Tryz.ntmps7
      go_wp2_with (first
        | (go_at_call 24; refine HO.out.mono ?_; rintro e w1 ⟨b1, h5⟩; obtain ⟨p, rfl, hOR⟩ : ∃ p, e = .returned (.tuple #[.pointer (some ⟨p, 0, none⟩), .int .i64 0]) ∧ OrdR w1 w1.heap.size p t := (by rcases h5 with ⟨h, _⟩ | ⟨p, t', h, he, ho⟩; rw [HT.out] at h; cases h; rw [HT.out] at h; cases h; exact ⟨p, he, ho⟩))
        | (go_at_call 12; refine (HAT.out _ b1).mono ?_; rintro e w2 ⟨rfl, hw⟩; subst w2))
      go_ret2
      exact ⟨b1, .inl ⟨2, HR.out, rfl⟩⟩
    · have HR : Hid (newV xs ps x = (0, some ⟨xs, t, (idxT xs x).toNat⟩)) := Lib.hid (by rw [HNV2.out, if_neg hi])
      obtain ⟨ix, hix⟩ := Int.eq_ofNat_of_zero_le (a := idxT xs x) (by omega)
      rw [hix] at HR HAT hi
      rw [Int.toNat_natCast] at HR
      have d1 : decide ((ix : Int) < 0) = false := decide_eq_false hi
      clear hix hio HNV2
      go_enter Tryz.func7, Tryz.ntmps7
      go_wp2_with (first
        | (go_at_call 24; refine HO.out.mono ?_; rintro e w1 ⟨b1, h5⟩; obtain ⟨p, rfl, hOR⟩ : ∃ p, e = .returned (.tuple #[.pointer (some ⟨p, 0, none⟩), .int .i64 0]) ∧ OrdR w1 w1.heap.size p t := (by rcases h5 with ⟨h, _⟩ | ⟨p, t', h, he, ho⟩; rw [HT.out] at h; cases h; rw [HT.out] at h; cases h; exact ⟨p, he, ho⟩))
        | (go_at_call 12; refine (HAT.out _ b1).mono ?_; rintro e w2 ⟨rfl, hw⟩; subst w2))
      go_ret2
      have hz := b1.size
      refine ⟨b1.alloc hz _, .inr ⟨⟨xs, t, ix⟩, w1.heap.size, HR.out, rfl, ⟨by simp, A, c, p, ?_, ?_, ?_⟩⟩⟩
      · rw [HL.out]; exact Blk.new _ _ _
      · rw [HL.out]
        exact (((hr.below (b1.mono hK)).more (by omega : K ≤ w1.heap.size)).alloc (Nat.le_refl _) _).up (by simp)
      · exact (hOR.below (Below.refl w1.heap.size w1 |>.alloc (Nat.le_refl _) _)).up (by simp)
end Go.Proofs.YtgdnphmannbpgaaGreatDoor
