/- Joined texts: FrameW, FrameL, OpenTexts, FrameT. -/
import Derived.Test.YtgdnphmannbpgaaGreatDoorGA
import Derived.Test.YtgdnphmannbpgaaGreatDoorChecked
import Derived.Deep.DeepHandedRow
import Derived.Lay
import Derived.LaidLaws
import Derived.Test.YtgdnphmannbpgaaGreatDoorGB
import Derived.Shelf.Vars
import Derived.SliceStrings
import Derived.Test.YtgdnphmannbpgaaGreatDoorRows
import Derived.Test.YtgdnphmannbpgaaGreatDoorGO
import Derived.Test.YtgdnphmannbpgaaGreatDoorShelf
import Derived.Lib.LaidU8
import Derived.LaidMore
/-
  What the frames of the rows that list variables share: a witness at a world that is written out.
-/
namespace Go.Proofs.YtgdnphmannbpgaaGreatDoor
open Go.RowKit

theorem witness_rowL {H : Type} {enc : TypeId × Value → H} {C : Checked} {os : Os} {f : FuncId} {fn : Func} {s : OpenSpec} {conds : List PathCond} {apart : Bool} {laid : List (String × DataW Unit)} (w0 : World) (args : Array Value) (hos : w0.os = os)
    (hsh : (w0.forCall (fun _ _ => 0) ⟨#[], args, []⟩).Shaped C.prog)
    (hok : Input.okWideB C.prog (w0.forCall (fun _ _ => 0) ⟨#[], args, []⟩) f ⟨#[], args, []⟩ = true)
    (hrow : s.preRow enc C.prog fn conds apart laid (w0.forCall (fun _ _ => 0) ⟨#[], args, []⟩).memory args) :
    ∃ (w : World) (tape : Tape) (i : Input), w.os = os ∧ (w.forCall tape i).Shaped C.prog ∧ i.vars = [] ∧ Input.okWide C.prog (w.forCall tape i) .any w.heap.size f i ∧
      s.preRow enc C.prog fn conds apart laid (w.forCall tape i).memory i.args ∧ ({} : Assume).holds C.prog (lone (Frame.enter C.prog f i.args .normal) [] (w.forCall tape i)) :=
  ⟨w0, fun _ _ => 0, ⟨#[], args, []⟩, hos, hsh, (Input.okWide_of_okWideB (base := 0) hok).1, (Input.okWide_of_okWideB hok).2, hrow, by
    simp only [Assume.holds]
    exact ⟨by simp, by simp, by simp, by simp, by simp⟩⟩
end Go.Proofs.YtgdnphmannbpgaaGreatDoor
/-
  The library's own variable out of the world's shape.
-/
namespace Go.Proofs.YtgdnphmannbpgaaGreatDoor
open Go.RowKit

theorem glb_of {W : World} (h : W.ShapedOpen Tryz.prog) : Glb W :=
  cell_of_shapedOpen_int (g := 0) (t := 3) (zero := #[.int .i64 0]) h (of_decide_eq_true (by kernel_rfl)) (by kernel_rfl) rfl (by kernel_rfl) (by kernel_rfl) Tryz.underlying3
end Go.Proofs.YtgdnphmannbpgaaGreatDoor
/-
  Opening a slice of texts.
-/
namespace Go.Proofs.YtgdnphmannbpgaaGreatDoor
open Go.RowKit Go.ChangeShapes Go.WideShapes Go.Deep

/-- what a slice of texts that came in gives -/
def IsTexts (W : World) (a : Option Addr) (len cap : Nat) (l : List ByteArray) : Prop :=
  Reads W W.heap.size 1 a len (txCells l) ∧ len ≤ cap ∧ cap ≤ maxLen ∧ ∀ x ∈ l, x.size ≤ maxLen

theorem open_texts {H : Type} {enc : TypeId × Value → H} {W : World} {sp : Nat → Bool} {held : Bool} {a : Option Addr} {len cap : Nat} {d : DataW H} {p : List MemPlace}
    (h : DataW.Trod enc Tryz.prog W 0 sp held 22 (.slice a len cap) d p) : ∃ l : List ByteArray, IsTexts W a len cap l := by
  obtain ⟨fuel, hf⟩ := h
  rcases open_strings Tryz.underlying22 Tryz.underlying9 (by kernel_rfl) hf with ⟨hcs, hx⟩ | ⟨b, len', cap', ss, hcs, _, hl, hm, hz, hx, hcell, hsz⟩
  · simp [Value.cells] at hcs
    obtain ⟨rfl, rfl, rfl⟩ := hcs
    exact ⟨[], Reads.none_, Nat.le_refl _, Nat.zero_le _, by simp⟩
  · simp [Value.cells] at hcs
    obtain ⟨rfl, rfl, rfl⟩ := hcs
    have hle : len ≤ ss.length := by rw [hz]; split <;> omega
    have hget : ∀ i, i < len → W.cell? (b.add i) = some (.string (ss.getD i ByteArray.empty)) := fun i hi => hcell i (by omega)
    refine ⟨ss.take len, ⟨by simp; omega, fun h0 => ⟨b, rfl, ?_, fun j u hu => ?_⟩⟩, hl, hm, fun x hx => hsz x (List.mem_of_mem_take hx)⟩
    · have := World.block_lt_of_cell? W _ (hget 0 h0)
      simpa [Addr.add] using this
    · rw [List.getElem?_map, List.getElem?_take] at hu
      by_cases hj : j < len
      · rw [if_pos hj] at hu
        rw [hget j hj]
        obtain ⟨x, hx, rfl⟩ := Option.map_eq_some_iff.1 hu
        rw [List.getD, hx]; rfl
      · rw [if_neg hj] at hu; cases hu

theorem Reads.pre {w : World} {B n k : Nat} {A : Option Addr} {xs : List Value} (h : Reads w B 1 A n xs) (hk : k ≤ n) : Reads w B 1 A k (xs.take k) := by
  refine ⟨by have := h.1; simp; omega, fun h0 => ?_⟩
  obtain ⟨ad, e, hb, hc⟩ := h.2 (by omega)
  refine ⟨ad, e, hb, fun j u hu => hc j u ?_⟩
  rw [List.getElem?_take] at hu
  split at hu
  · exact hu
  · cases hu
theorem Reads.suf {w : World} {B n k cap : Nat} {A : Option Addr} {xs : List Value} (h : Reads w B 1 A n xs) (hk : k ≤ n) (hc : n ≤ cap) : Reads w B 1 (if cap = k then A else A.map (·.add k)) (n - k) (xs.drop k) := by
  have := h.cut hk hc
  simpa using this
end Go.Proofs.YtgdnphmannbpgaaGreatDoor
/-
  The tables of unicode/utf8 out of what the row lists.
-/
namespace Go.Proofs.YtgdnphmannbpgaaGreatDoor
open Go.RowKit

theorem tabs_of {W : World} (hL : laidMet Tryz.prog [("unicode/utf8.acceptRanges", Rows.laid_unicode_utf8_acceptRanges), ("unicode/utf8.first", Rows.laid_unicode_utf8_first)] W) : Tabs W :=
  utf8Tabs_of_reads (ρ := Tryz.lays197_ren) { Tryz.lays197 with } ⟨by kernel_rfl, by kernel_rfl, by kernel_rfl, by kernel_rfl, by kernel_rfl, by kernel_rfl, by kernel_rfl⟩
    (by
      have h := Lib.laidMet.reads hL (.tail _ (.head _))
      have e : Rows.laid_unicode_utf8_first = Lib.firstData := by kernel_rfl
      rw [e] at h
      exact h)
    (by
      have h := Lib.laidMet.reads hL (.head _)
      have e : (Rows.laid_unicode_utf8_acceptRanges : DataW Unit) = Lib.acceptData := by kernel_rfl
      rw [e] at h
      exact h)
end Go.Proofs.YtgdnphmannbpgaaGreatDoor
