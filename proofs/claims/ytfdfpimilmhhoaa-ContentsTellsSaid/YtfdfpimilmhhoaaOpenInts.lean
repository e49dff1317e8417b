/-
  Opening a slice of numbers.
-/
import Derived.Test.YtfdfpimilmhhoaaFrame
import Derived.Test.YtfdfpimilmhhoaaDepths
namespace Go.Proofs.Ytfdfpimilmhhoaa
open Go.RowKit Go.ChangeShapes Go.WideShapes Go.Deep

theorem open_nums {H : Type} {enc : TypeId × Value → H} {W : World} {sp : Nat → Bool} {held : Bool} {a : Option Addr} {len cap : Nat} {d : DataW H} {p : List MemPlace}
    (h : DataW.Trod enc Try.prog W 0 sp held 22 (.slice a len cap) d p) : ∃ l : List Int, Reads W W.heap.size 1 a len (ints l) := by
  obtain ⟨fuel, hf⟩ := h
  rcases open_ints Try.underlying22 Try.underlying3 (by kernel_rfl) hf with ⟨hcs, _⟩ | ⟨x, l, c, zs, hcs, _, hl, hm, hz, _, hcell, hwz⟩
  · simp [Value.cells] at hcs
    obtain ⟨rfl, rfl, rfl⟩ := hcs
    exact ⟨[], Reads.none_⟩
  · simp [Value.cells] at hcs
    obtain ⟨rfl, rfl, rfl⟩ := hcs
    have hle : len ≤ zs.length := by rw [hz]; split <;> omega
    refine ⟨zs.take len, by simp; omega, fun h0 => ⟨x, rfl, ?_, fun j u hu => ?_⟩⟩
    · have := World.block_lt_of_cell? W _ (hcell 0 (by omega))
      simpa [Addr.add] using this
    · rw [List.getElem?_map, List.getElem?_take] at hu
      by_cases hj : j < len
      · rw [if_pos hj] at hu
        rw [hcell j (by omega)]
        obtain ⟨y, hy, rfl⟩ := Option.map_eq_some_iff.1 hu
        rw [List.getD, hy]; rfl
      · rw [if_neg hj] at hu; cases hu
end Go.Proofs.Ytfdfpimilmhhoaa
