/-
  What the walks of bowdlerlaw9 share.
-/
import Derived.Test.YtommebalgghdjaaDoorAliveB
import Derived.Test.YtommebalgghdjaaDoorOpenTexts
namespace Go.Proofs.YtommebalgghdjaaDoor
open Go.RowKit

theorem plain_facts {ls : List ByteArray} (h : plainT ls = true) : ls.length ≤ 40 ∧ ∀ x ∈ ls, x.size ≤ 100 := by
  unfold plainT at h
  rw [Bool.and_eq_true, decide_eq_true_eq, List.all_eq_true] at h
  refine ⟨h.2, fun x hx => ?_⟩
  have := h.1 x hx
  unfold plainX at this
  rw [Bool.and_eq_true, decide_eq_true_eq] at this
  exact this.1
theorem parse_len (ls : List Ln) : (parseT ls).length ≤ 28 * ls.length := allT_len 14 0 ls
/-- one line more -/
theorem want_snoc (pre : List Ln) (l : List ByteArray) {k : Nat} {x : ByteArray} (hx : l[k]? = some x) : S (joinT (pre ++ (l.take (k + 1)).map L)) = S (joinT (pre ++ (l.take k).map L)) ++ (x ++ ⟨#[10]⟩) := by
  rw [joinT_app, joinT_take l hx, ← List.append_assoc, ← joinT_app, S_append, L_append]
  rfl
theorem join_le (l : List ByteArray) (N : Nat) (h : ∀ x ∈ l, x.size ≤ N) : (joinT (l.map L)).length ≤ (N + 1) * l.length := by
  rw [joinT_len]
  induction l with
  | nil => simp
  | cons x l ih =>
    have h1 := h x (by simp)
    have h2 := ih fun y hy => h y (by simp [hy])
    simp only [List.map_cons, List.sum_cons, List.length_cons, length_L]
    rw [Nat.mul_add]
    omega
end Go.Proofs.YtommebalgghdjaaDoor
