/-
  bowdlerbook.SameTexts: its contract: whether two lists of texts are alike.
-/
import Derived.Test.YtommebalgghdjaaDoorChecked
import Derived.Test.YtommebalgghdjaaDoorMem
import Derived.Test.YtommebalgghdjaaDoorBytes
namespace Go.Proofs.YtommebalgghdjaaDoor
open Go.RowKit

theorem take_eq_succ {α : Type} {a b : List α} {k : Nat} {x y : α} (hx : a[k]? = some x) (hy : b[k]? = some y) (h : a.take k = b.take k) : a.take (k + 1) = b.take (k + 1) ↔ x = y := by
  rw [List.take_add_one, List.take_add_one, hx, hy, h]
  simp
abbrev txCells (xs : List ByteArray) : List Value := xs.map Value.string

end Go.Proofs.YtommebalgghdjaaDoor
