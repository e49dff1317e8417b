/-
  block: the contract of Parse.
-/
import Derived.Test.YtommebalgghdjaaDoorBlockAll
namespace Go.Proofs.YtommebalgghdjaaDoor
open Go.RowKit
set_option linter.unusedVariables false

set_option maxHeartbeats 4000000 in
set_option maxRecDepth 100000 in
theorem parse_any (K : Nat) (xs : List ByteArray) (A : Option Addr) (n c : Nat) (w : World) (hr : Reads w K 1 A n (txCells xs)) (hK : K ≤ w.heap.size) (hok : LnOk xs) (hn : n ≤ 1048576) (hnc : n ≤ c) :
    Calls Tryd.prog 17 #[.slice A n c] w fun e w' => ∃ (Ao : Option Addr) (m co : Nat), e = .returned (.slice Ao m co) ∧ (parseT (xs.map L)).length = m ∧
      Own w' w.heap.size 28 6 Ao m co (blkCells (parseT (xs.map L))) ∧ Below w.heap.size w w' := by
  have hQ : PSt (w.alloc (.cells #[.slice A n c, .int .i64 0, .int .i64 0, .slice none 0 0] 44)) w.heap.size w.heap.size A n c 0 0 [] :=
    ⟨Nat.le_refl _, by simp, none, 0, Blk.new _ _ _, Own.nil _ _ _ _⟩
  have hal := all_ok 14 0 (by decide) (by decide) (by decide) K xs w.heap.size w.heap.size A n c 0 [] _ hQ (by simp; omega) (hr.alloc hK _) hK hok hn hnc
  simp only [List.nil_append, List.drop_zero] at hal
  have HAL := Lib.hid hal
  clear hal
  go_enter Tryd.func17, Tryd.ntmps17
  go_wp2_with (go_at_call 23; refine HAL.out.mono ?_; rintro e w1 ⟨Ao, m, co, rfl, hm, hO, b1⟩)
  go_ret
  exact ⟨Ao, m, co, rfl, hm, hO, ((Below.refl _ _).alloc (Nat.le_refl _) _).trans b1⟩
end Go.Proofs.YtommebalgghdjaaDoor
