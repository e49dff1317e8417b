/-
  bowdlerbook.markInls: the marks.
-/
import Derived.Test.YtfdfpimilmhhoaaBookNil
import Derived.Test.YtfdfpimilmhhoaaSameInls
import Derived.Test.YtfdfpimilmhhoaaGroup
namespace Go.Proofs.Ytfdfpimilmhhoaa
open Go.RowKit
set_option linter.unusedVariables false

def lnameT (i k : Nat) : Inl := ⟨0, -1000 * (i : Int) - (k : Int) - 1, ⟨#[]⟩, ⟨#[]⟩, ⟨#[]⟩⟩
def lmarksT (i frm n : Nat) : List Inl := (List.range n).map fun j => lnameT i (frm + j)
theorem lmarksT_len (i frm n : Nat) : (lmarksT i frm n).length = n := by simp [lmarksT]
theorem lmarksT_step (i frm n : Nat) : lmarksT i frm (n + 1) = lmarksT i frm n ++ [lnameT i (frm + n)] := by simp [lmarksT, List.range_succ]
theorem lmarksT_app (i n m : Nat) : lmarksT i 0 n ++ lmarksT i n m = lmarksT i 0 (n + m) := by
  induction m with
  | zero => simp [lmarksT]
  | succ m ih => rw [lmarksT_step, ← List.append_assoc, ih, ← Nat.add_assoc, lmarksT_step]; simp
set_option maxHeartbeats 1000000 in
set_option maxRecDepth 100000 in
theorem markInls_any (i frm n : Nat) (w : World) (hi : i ≤ 1000) (hn : frm + n ≤ 1000000) : Calls Try.prog 95 #[.int .i64 (i : Int), .int .i64 (frm : Int), .int .i64 (n : Int)] w fun e w' => ∃ A c, e = .returned (.slice A n c) ∧ Own w' w.heap.size 95 5 A n c (inlCells (lmarksT i frm n)) ∧ Below w.heap.size w w' := by
  go_enter Try.func95, Try.ntmps95
  go_wp2_with fail
  go_loopw [7, 8] (fun s7 s8 wr => ∃ (j : Nat) (A : Option Addr) (c : Nat), j ≤ n ∧ s8 = .int .i64 ((frm + j : Nat) : Int) ∧ s7 = .slice A j c ∧ Own wr w.heap.size 95 5 A j c (inlCells (lmarksT i frm j)) ∧ Below w.heap.size w wr)
    (fun _ s8 _ => frm + n - (intOf s8).toNat)
  case atStart => exact ⟨0, none, 0, Nat.zero_le _, rfl, rfl, Own.nil _ _ _ _, Below.refl _ _⟩
  case round =>
    obtain ⟨j, A, c, hj, rfl, rfl, hO, hb⟩ := hrel
    have hz := hb.size
    by_cases hlt : j < n
    · have y1 : ((frm + j : Nat) : Int) < (frm : Int) + (n : Int) := by omega
      go_wp2_with (at_builtin; refine wpList_app1 Try.elInls rfl (.tmp 17) (.tmp 24) rfl rfl (by exact hO.alloc _) rfl (Blk.new' _ _ _ _ (by simp)) rfl (by simp [Value.oneCell']) (by simp only [maxLen]; omega) (by omega) (by simp; omega) ?_
                   intro A2 c2 w2 hO2 ho2 hm2)
      go_roundw
      case rel =>
        refine ⟨j + 1, A2, c2, by omega, by go_num, rfl, ?_, hb.trans (ho2.of_alloc.below (fun a ha => (hO.lt ha).1) hz)⟩
        rw [lmarksT_step]
        simpa [Inl.cells, lnameT] using hO2
      case measure => simp [intOf]; omega
    · have hjn : j = n := by omega
      subst hjn
      have y1 : ¬ ((frm + j : Nat) : Int) < (frm : Int) + (j : Int) := by omega
      go_wp2_with fail
      go_ret
      exact ⟨A, c, rfl, hO, hb⟩
end Go.Proofs.Ytfdfpimilmhhoaa
