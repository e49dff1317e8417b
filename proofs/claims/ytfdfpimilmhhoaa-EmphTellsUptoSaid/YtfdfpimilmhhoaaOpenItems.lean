/-
  Opening a slice of items of small bulk.
-/
import Derived.Test.YtfdfpimilmhhoaaOpenInls
namespace Go.Proofs.Ytfdfpimilmhhoaa
open Go.RowKit Go.ChangeShapes Go.WideShapes Go.Deep

theorem open_items_upto {H : Type} {enc : TypeId × Value → H} {W : World} {sp : Nat → Bool} {held : Bool} {a : Option Addr} {len cap : Nat} {d : DataW H} {p : List MemPlace}
    (h : DataW.Trod enc Try.prog W 0 sp held 50 (.slice a len cap) d p) (b : Rows.uptoBulk d ≤ 1048576) :
    ∃ l : List Pc, Reads W W.heap.size 5 a len (l.flatMap itCells) ∧ ∀ x ∈ l, itemFit W x ∧ txtLen x.l + x.l.length ≤ 1048576 := by
  obtain ⟨l, hr, hd⟩ := open_items' h
  refine ⟨l, hr, fun x hx => ?_⟩
  rcases hd with rfl | ⟨ds, spare, rfl, hd⟩
  · cases hx
  · obtain ⟨i, hi⟩ := List.getElem?_of_mem hx
    obtain ⟨D, hD, h1, h2, h3, dl, rfl, h4, h5, h6⟩ := hd i x hi
    refine ⟨⟨h1, h2, h3, h4, h5⟩, ?_⟩
    have hb := bulk_all (List.mem_of_getElem? hD)
    simp only [Rows.uptoBulk] at b
    simp only [itemD, Rows.uptoBulk, Rows.uptoBulkAll] at hb
    rcases h6 with h6 | ⟨sp2, rfl⟩
    · rw [h6]; simp [txtLen]
    · have := bulk_sum (H := H) x.l
      simp only [Rows.uptoBulk] at hb
      omega
end Go.Proofs.Ytfdfpimilmhhoaa
