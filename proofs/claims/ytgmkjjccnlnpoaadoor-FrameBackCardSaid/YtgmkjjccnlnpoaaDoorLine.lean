/-
  line: the contracts of its functions.
-/
import Derived.Test.YtgmkjjccnlnpoaaDoorChecked
import Derived.Test.YtgmkjjccnlnpoaaDoorLineB
import Derived.Test.YtgmkjjccnlnpoaaDoorSameTexts
namespace Go.Proofs.YtgmkjjccnlnpoaaDoor
open Go.RowKit

theorem Tryd.infoStr : (Tryd.prog.info? 9).map (fun i => (i.zero, i.size, i.bytes)) = some (some (.string ⟨#[]⟩), 1, 16) := by kernel_rfl
theorem Tryd.elTexts : Elem Tryd.prog 23 9 1 16 := Elem.mk' Tryd.underlying23 Tryd.infoStr rfl (by decide)
theorem tx_one (l : List ByteArray) : ∀ u ∈ txCells l, u.oneCell' = true := by
  intro u hu
  obtain ⟨x, _, rfl⟩ := List.mem_map.1 hu
  rfl

/-- the library's own variable holds some number -/
def Glb (w : World) : Prop := ∃ m, w.cell? ⟨0, 0, none⟩ = some (.int .i64 m)
theorem Glb.lt {w : World} (h : Glb w) : 0 < w.heap.size := by
  obtain ⟨m, hm⟩ := h
  exact World.block_lt_of_cell? w _ hm
theorem Glb.below {w w' : World} (h : Glb w) (hb : Below w.heap.size w w') : Glb w' := by
  have hl := h.lt
  obtain ⟨m, hm⟩ := h
  exact ⟨m, (hb.cell (p := ⟨0, 0, none⟩) hl).trans hm⟩
theorem Glb.alloc {w : World} (h : Glb w) (o : Obj) : Glb (w.alloc o) := h.below ((Below.refl _ _).alloc (Nat.le_refl _) _)

def linesB (s : ByteArray) : List ByteArray := (linesT (L s)).map S
theorem map_S_L (xs : List ByteArray) : (xs.map L).map S = xs := by
  rw [List.map_map]
  conv => rhs; rw [← List.map_id xs]
  congr 1


theorem joinT_take (xs : List ByteArray) {k : Nat} {x : ByteArray} (hx : xs[k]? = some x) : joinT ((xs.take (k + 1)).map L) = joinT ((xs.take k).map L) ++ (L x ++ [10]) := by
  rw [List.take_add_one, hx, Option.toList_some, List.map_append, joinT_app]; simp [joinT]
theorem joinT_take_le (xs : List ByteArray) (k : Nat) : (joinT ((xs.take k).map L)).length ≤ (joinT (xs.map L)).length := by
  conv => rhs; rw [← List.take_append_drop k xs, List.map_append, joinT_app, List.length_append]
  omega

end Go.Proofs.YtgmkjjccnlnpoaaDoor
