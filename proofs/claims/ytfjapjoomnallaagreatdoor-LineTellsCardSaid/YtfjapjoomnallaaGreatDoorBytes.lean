/-
  Texts as bytes: whether two are one, in the walk's spellings.
-/
import Derived.Test.YtfjapjoomnallaaGreatDoorPlain
import Derived.Laws.StructEq
namespace Go.Proofs.YtfjapjoomnallaaGreatDoor
open Go.RowKit

theorem bytes_same (a b : ByteArray) : (a == b) = true ↔ a = b := by
  rw [beq_toListBytes, beq_iff_eq, ByteArray.toList_eq, ByteArray.toList_eq]
  exact ⟨fun h => L_inj h, fun h => by rw [h]⟩
/-- two texts that are not one: in all the walk's spellings -/
theorem bytes_ne {a b : ByteArray} (h : ¬ a = b) : (a == b) = false ∧ (a.toList == b.toList) = false ∧ ¬ a.toList = b.toList := by
  have h1 : (a == b) = false := Bool.eq_false_iff.2 fun e => h ((bytes_same _ _).1 e)
  have h2 : (a.toList == b.toList) = false := by rw [← beq_toListBytes]; exact h1
  exact ⟨h1, h2, fun e => by rw [e] at h2; simp at h2⟩
/-- a text that is not empty -/
theorem bytes_some {a : ByteArray} (h : ¬ a.size = 0) : (a == ⟨#[]⟩) = false ∧ ¬ a.toList = [] ∧ a.toList.isEmpty = false := by
  have h1 : ¬ a = ⟨#[]⟩ := fun e => h (by rw [e]; rfl)
  have h2 : ¬ a.toList = [] := fun e => h1 (by rw [ByteArray.toList_eq] at e; exact L_inj e)
  exact ⟨(bytes_ne h1).1, h2, by simpa using h2⟩
theorem bytes_none {a : ByteArray} (h : a.size = 0) : a = ⟨#[]⟩ := L_inj (List.eq_nil_of_length_eq_zero (by simpa using h))
theorem byte_ne {x : UInt8} {n : Nat} (hn : n < 256) (h : ¬ x = n.toUInt8) : ((x.toNat : Int) == (n : Int)) = false := by
  refine beq_eq_false_iff_ne.2 fun e => h (UInt8.toNat_inj.1 ?_)
  have : x.toNat = n := by omega
  rw [this]; simp; omega

theorem byte_bne {x : UInt8} {n : Nat} (hn : n < 256) (h : ¬ x = n.toUInt8) : ((x.toNat : Int) != (n : Int)) = true := by
  rw [bne, byte_ne hn h]; rfl
end Go.Proofs.YtfjapjoomnallaaGreatDoor
