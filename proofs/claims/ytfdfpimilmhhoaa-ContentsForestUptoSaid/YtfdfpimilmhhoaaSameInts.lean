/-
  bowdlerbook.SameInts: its contract: whether two lists of numbers are alike.
-/
import Derived.Test.YtfdfpimilmhhoaaChecked
import Derived.Test.YtfdfpimilmhhoaaMem
namespace Go.Proofs.Ytfdfpimilmhhoaa
open Go.RowKit

theorem take_eq_succ {α : Type} {a b : List α} {k : Nat} {x y : α} (hx : a[k]? = some x) (hy : b[k]? = some y) (h : a.take k = b.take k) : a.take (k + 1) = b.take (k + 1) ↔ x = y := by
  rw [List.take_add_one, List.take_add_one, hx, hy, h]
  simp

set_option maxHeartbeats 400000 in
set_option maxRecDepth 100000 in
theorem sameInts_any (A A' : Option Addr) (n n' c c' K : Nat) (xs ys : List Int) (w : World) (ha : Reads w K 1 A n (xs.map (Value.int .i64))) (hb : Reads w K 1 A' n' (ys.map (Value.int .i64))) (hn : n ≤ 1099511627776) (hn' : n' ≤ 1099511627776) :
    Calls Try.prog 11 #[.slice A n c, .slice A' n' c'] w fun e w' => e = .returned (.bool (decide (xs = ys))) ∧ ∃ m, w' = w.drewN m := by
  have hl : xs.length = n := by have := ha.1; simpa using this
  have hl' : ys.length = n' := by have := hb.1; simpa using this
  have HL := Lib.hid hl
  have HL' := Lib.hid hl'
  clear hl hl'
  by_cases hnn : n = n'
  · subst hnn
    go_enter Try.func11, Try.ntmps11
    go_wp2_with fail
    go_loopw [5] (fun i wr => ∃ k m : Nat, k ≤ n ∧ i = .int .i64 k ∧ xs.take k = ys.take k ∧ wr = w.drewN m) (fun i _ => n - (intOf i).toNat)
    case atStart => exact ⟨0, 0, Nat.zero_le _, rfl, rfl, rfl⟩
    case round =>
      obtain ⟨k, m, hk, rfl, heq, rfl⟩ := hrel
      have HE := Lib.hid heq
      clear heq
      by_cases hlt : k < n
      · obtain ⟨ad, u, rfl, _, hx0, hc⟩ := ha.at_ hlt
        obtain ⟨ad', u', rfl, _, hy0, hc'⟩ := hb.at_ hlt
        obtain ⟨x, hx, rfl⟩ : ∃ x, xs[k]? = some x ∧ Value.int .i64 x = u := by simpa using hx0
        obtain ⟨y, hy, rfl⟩ : ∃ y, ys[k]? = some y ∧ Value.int .i64 y = u' := by simpa using hy0
        have HT := Lib.hid (take_eq_succ hx hy HE.out)
        clear hx hy hx0 hy0
        by_cases hxy : x = y
        · have q : (!(x == y)) = false := by simp [hxy]
          have HX := Lib.hid hxy
          clear hxy
          go_wp2_with fail
          go_quiet (fail)
          go_wp2_with fail
          go_roundw
          case rel => exact ⟨k + 1, m + nq, by omega, by go_num, HT.out.2 HX.out, rfl⟩
          case measure => simp [intOf]; omega
        · have q : (!(x == y)) = true := by simp [hxy]
          go_wp2_with fail
          go_quiet (fail)
          go_wp2_with fail
          go_ret
          refine ⟨?_, _, World.drewN_drewN _ _ _⟩
          have : ¬ xs = ys := fun h => hxy (HT.out.1 (by rw [h]))
          rw [decide_eq_false this]
          rfl
      · have hkn : k = n := by omega
        subst hkn
        have hxy : xs = ys := by
          have := HE.out
          rwa [List.take_of_length_le (by rw [HL.out]; omega), List.take_of_length_le (by rw [HL'.out]; omega)] at this
        go_wp2_with fail
        go_ret
        rw [decide_eq_true hxy]
        exact ⟨rfl, m, rfl⟩
  · go_enter Try.func11, Try.ntmps11
    go_wp2_with fail
    go_ret
    have hne : ¬ xs = ys := fun h => hnn (by rw [← HL.out, ← HL'.out, h])
    rw [decide_eq_false hne]
    exact ⟨rfl, 0, rfl⟩
end Go.Proofs.Ytfdfpimilmhhoaa
