/-
  Small laws on what has been read of a text so far.
-/
import Derived.Test.YtgmkjjccnlnpoaaDoorSpanLaw
import Derived.Test.YtgmkjjccnlnpoaaDoorFramePlain
import Derived.Laws.StructEq
import Derived.Deep.DeepCutAuto
namespace Go.Proofs.YtgmkjjccnlnpoaaDoor
open Go.RowKit

theorem add0 (g j : Nat) : (⟨g, 0, none⟩ : Addr).add j = ⟨g, j, none⟩ := by unfold Addr.add; split <;> simp_all
theorem not_take (x : ByteArray) {c : UInt8} {j : Nat} (h : j < x.size) (hn : ¬ x[j]'h = c) (ih : c ∉ (L x).take j) : c ∉ (L x).take (j + 1) := by
  have hl : j < (L x).length := by simpa using h
  rw [List.take_add_one, List.getElem?_eq_getElem hl, Option.toList_some, List.mem_append, List.mem_singleton]
  rintro (hb | hb)
  · exact ih hb
  · exact hn hb.symm
theorem not_all (x : ByteArray) {c : UInt8} (h : c ∉ (L x).take x.size) : c ∉ L x := by
  rwa [List.take_of_length_le (by simp)] at h
theorem low_take (x : ByteArray) {j : Nat} (h : j < x.size) (h1 : ¬ ((x[j]'h).toNat : Int) < 97) (h2 : ¬ (122 : Int) < ((x[j]'h).toNat : Int)) (ih : lowT ((L x).take j) = true) : lowT ((L x).take (j + 1)) = true := by
  have hl : j < (L x).length := by simpa using h
  unfold lowT at ih ⊢
  rw [List.take_add_one, List.getElem?_eq_getElem hl, Option.toList_some, List.all_append, ih]
  simp only [List.all_cons, List.all_nil, Bool.and_true, Bool.true_and, Bool.and_eq_true, decide_eq_true_eq]
  have : (L x)[j] = x[j] := rfl
  rw [this]
  omega
theorem low_all (x : ByteArray) (h : lowT ((L x).take x.size) = true) : lowT (L x) = true := by
  rwa [List.take_of_length_le (by simp)] at h
end Go.Proofs.YtgmkjjccnlnpoaaDoor
