/-
  Opening a slice of texts.
-/
import Derived.Test.YteeoohnkfdffnaaGreatDoorFrame
import Derived.Test.YteeoohnkfdffnaaGreatDoorGB
import Derived.SliceStrings
namespace Go.Proofs.YteeoohnkfdffnaaGreatDoor
open Go.RowKit Go.ChangeShapes Go.WideShapes Go.Deep

/-- what a slice of texts that came in gives -/
def IsTexts (W : World) (a : Option Addr) (len cap : Nat) (l : List ByteArray) : Prop :=
  Reads W W.heap.size 1 a len (txCells l) ∧ len ≤ cap ∧ cap ≤ maxLen ∧ ∀ x ∈ l, x.size ≤ maxLen

theorem open_texts {H : Type} {enc : TypeId × Value → H} {W : World} {sp : Nat → Bool} {held : Bool} {a : Option Addr} {len cap : Nat} {d : DataW H} {p : List MemPlace}
    (h : DataW.Trod enc Tryz.prog W 0 sp held 22 (.slice a len cap) d p) : ∃ l : List ByteArray, IsTexts W a len cap l := by
  obtain ⟨fuel, hf⟩ := h
  rcases open_strings Tryz.underlying22 Tryz.underlying9 (by kernel_rfl) hf with ⟨hcs, hx⟩ | ⟨b, len', cap', ss, hcs, _, hl, hm, hz, hx, hcell, hsz⟩
  · simp [Value.cells] at hcs
    obtain ⟨rfl, rfl, rfl⟩ := hcs
    exact ⟨[], Reads.none_, Nat.le_refl _, Nat.zero_le _, by simp⟩
  · simp [Value.cells] at hcs
    obtain ⟨rfl, rfl, rfl⟩ := hcs
    have hle : len ≤ ss.length := by rw [hz]; split <;> omega
    have hget : ∀ i, i < len → W.cell? (b.add i) = some (.string (ss.getD i ByteArray.empty)) := fun i hi => hcell i (by omega)
    refine ⟨ss.take len, ⟨by simp; omega, fun h0 => ⟨b, rfl, ?_, fun j u hu => ?_⟩⟩, hl, hm, fun x hx => hsz x (List.mem_of_mem_take hx)⟩
    · have := World.block_lt_of_cell? W _ (hget 0 h0)
      simpa [Addr.add] using this
    · rw [List.getElem?_map, List.getElem?_take] at hu
      by_cases hj : j < len
      · rw [if_pos hj] at hu
        rw [hget j hj]
        obtain ⟨x, hx, rfl⟩ := Option.map_eq_some_iff.1 hu
        rw [List.getD, hx]; rfl
      · rw [if_neg hj] at hu; cases hu

theorem Reads.pre {w : World} {B n k : Nat} {A : Option Addr} {xs : List Value} (h : Reads w B 1 A n xs) (hk : k ≤ n) : Reads w B 1 A k (xs.take k) := by
  refine ⟨by have := h.1; simp; omega, fun h0 => ?_⟩
  obtain ⟨ad, e, hb, hc⟩ := h.2 (by omega)
  refine ⟨ad, e, hb, fun j u hu => hc j u ?_⟩
  rw [List.getElem?_take] at hu
  split at hu
  · exact hu
  · cases hu
theorem Reads.suf {w : World} {B n k cap : Nat} {A : Option Addr} {xs : List Value} (h : Reads w B 1 A n xs) (hk : k ≤ n) (hc : n ≤ cap) : Reads w B 1 (if cap = k then A else A.map (·.add k)) (n - k) (xs.drop k) := by
  have := h.cut hk hc
  simpa using this
end Go.Proofs.YteeoohnkfdffnaaGreatDoor
