/-
  block: the contract of holds, and what Right answers, as plain Lean.
-/
import Derived.Test.YtommebalgghdjaaDoorBlockParse
namespace Go.Proofs.YtommebalgghdjaaDoor
open Go.RowKit
set_option linter.unusedVariables false

def holdsT (b : BlockT) : Bool := b.kind == 3 || b.kind == 4 || b.kind == 5 || b.kind == 9

set_option maxHeartbeats 4000000 in
set_option maxRecDepth 100000 in
theorem holds_any (b : BlockT) (w : World) :
    Calls Tryd.prog 24 #[b.val] w fun e w' => e = .returned (.bool (holdsT b)) ∧ Below w.heap.size w w' := by
  have hv : b.val = .agg #[.int .i64 b.kind, .int .i64 b.depth, .int .i64 b.n, .bool b.tight, .string (S b.text), .string (S b.info)] := rfl
  rw [hv]
  unfold holdsT
  generalize b.kind = bk at *
  generalize b.depth = bd at *
  generalize b.n = bn at *
  generalize b.tight = bt at *
  generalize S b.text = tx at *
  generalize S b.info = nf at *
  clear hv
  have hb : Below w.heap.size w (w.alloc (.cells #[.int .i64 bk, .int .i64 bd, .int .i64 bn, .bool bt, .string tx, .string nf] 28)) := (Below.refl _ _).alloc (Nat.le_refl _) _
  have B0 := Blk.new w 28 #[.int .i64 bk, .int .i64 bd, .int .i64 bn, .bool bt, .string tx, .string nf]
  have c0 := B0.cell 0
  obtain ⟨p3, h3⟩ : ∃ p, (bk == 3) = p := ⟨_, rfl⟩
  obtain ⟨p4, h4⟩ : ∃ p, (bk == 4) = p := ⟨_, rfl⟩
  obtain ⟨p5, h5⟩ : ∃ p, (bk == 5) = p := ⟨_, rfl⟩
  obtain ⟨p9, h9⟩ : ∃ p, (bk == 9) = p := ⟨_, rfl⟩
  rw [h3, h4, h5, h9]
  cases p3 <;> cases p4 <;> cases p5 <;> cases p9
  all_goals
    go_enter Tryd.func24, Tryd.ntmps24
    go_wp2_with fail
    go_ret
    exact ⟨rfl, hb⟩
end Go.Proofs.YtommebalgghdjaaDoor
