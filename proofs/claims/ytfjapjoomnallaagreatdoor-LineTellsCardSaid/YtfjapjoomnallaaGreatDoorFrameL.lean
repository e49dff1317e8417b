/-
  The library's own variable out of the world's shape.
-/
import Derived.Test.YtfjapjoomnallaaGreatDoorLine
import Derived.Test.YtfjapjoomnallaaGreatDoorFrameW
import Derived.Shelf.Vars
namespace Go.Proofs.YtfjapjoomnallaaGreatDoor
open Go.RowKit

theorem glb_of {W : World} (h : W.ShapedOpen Tryz.prog) : Glb W :=
  cell_of_shapedOpen_int (g := 0) (t := 3) (zero := #[.int .i64 0]) h (of_decide_eq_true (by kernel_rfl)) (by kernel_rfl) rfl (by kernel_rfl) (by kernel_rfl) Tryz.underlying3
end Go.Proofs.YtfjapjoomnallaaGreatDoor
