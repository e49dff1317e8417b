/-
  bowdlerbook.LentInls and StaysInls.
-/
import Derived.Test.YtfdfpimilmhhoaaInlRows2
namespace Go.Proofs.Ytfdfpimilmhhoaa
open Go.RowKit
set_option linter.unusedVariables false

def markL : Inl := ⟨0, -77, ⟨#[]⟩, ⟨#[]⟩, ⟨#[]⟩⟩
theorem inls_mark (xs : List Inl) : inlCells (xs ++ [markL]) = inlCells xs ++ [.int .i64 0, .int .i64 (-77), .string ⟨#[]⟩, .string ⟨#[]⟩, .string ⟨#[]⟩] := by simp [inlCells, Inl.cells, markL]
set_option maxHeartbeats 1000000 in
set_option maxRecDepth 100000 in
theorem lentInls_any (A : Option Addr) (n c K : Nat) (xs : List Inl) (w : World) (hr : Reads w K 5 A n (inlCells xs)) (hn : n ≤ 1000000) :
    Calls Try.prog 20 #[.slice A n c] w fun e w' => ∃ B d, e = .returned (.slice B n d) ∧ Own w' w.heap.size 95 5 B (n + 1) d (inlCells (xs ++ [markL])) ∧ Below w.heap.size w w' := by
  go_enter Try.func20, Try.ntmps20
  go_wp2_with (first
    | (go_at_call 70; refine (copyInls_any A n c K xs w hr (by omega)).mono ?_; rintro e w1 ⟨A1, c1, rfl, hO1, b1⟩
       have hz1 := b1.size)
    | (at_builtin; refine wpList_app1 Try.elInls rfl (.tmp 4) (.tmp 6) rfl rfl (by exact hO1.alloc _) rfl (Blk.new' _ _ _ _ (by simp)) rfl (by simp [Value.oneCell']) (by simp only [maxLen]; omega) (by omega) (by simp; omega) ?_
       intro B d w2 hO2 ho2 hm2
       obtain ⟨q, rfl, _, _⟩ := hO2.some_ (by omega)
       have hcap := hO2.cap))
  go_ret
  exact ⟨_, _, rfl, by simpa [inlCells, Inl.cells, markL] using hO2, b1.trans (ho2.of_alloc.below (fun a ha => (hO1.lt ha).1) hz1)⟩
set_option maxHeartbeats 1000000 in
set_option maxRecDepth 100000 in
theorem staysInls_any (B A : Option Addr) (n d c K base : Nat) (xs : List Inl) (w : World) (hO : Own w base 95 5 B (n + 1) d (inlCells (xs ++ [markL]))) (hr : Reads w K 5 A n (inlCells xs)) (hn : n ≤ 1000000) :
    Calls Try.prog 23 #[.slice B n d, .slice A n c] w fun e w' => e = .returned (.bool true) ∧ ∃ m, w' = w.drewN m := by
  have hlen : xs.length = n := by have := hr.1; rw [flat_length _ 5 inl_len] at this; omega
  obtain ⟨q, rfl, _, _⟩ := hO.some_ (by omega)
  have hcap := hO.cap
  have k1 : ∀ m, (w.drewN m).cell? ⟨q, n * 5 + 1, none⟩ = some (.int .i64 (-77)) := fun m => (hO.drewN m).cell (by rw [inls_mark, List.getElem?_append_right (by rw [flat_length _ 5 inl_len]; omega), flat_length _ 5 inl_len, hlen, Nat.add_sub_cancel_left]; rfl)
  have hrd : Reads w w.heap.size 5 (some ⟨q, 0, none⟩) n (inlCells xs) := by
    have h1 := (hO.take (m := n) (by omega)).reads
    have : (inlCells (xs ++ [markL])).take (n * 5) = inlCells xs := by
      rw [inls_mark, List.take_append_of_le_length (by rw [flat_length _ 5 inl_len]; omega), List.take_of_length_le (by rw [flat_length _ 5 inl_len]; omega)]
    rw [this] at h1
    exact h1
  have HS := Lib.hid (sameInls_any (some ⟨q, 0, none⟩) A n n d c (w.heap.size + K) xs xs w (hrd.more (by omega)) (hr.more (by omega)) (by omega) (by omega))
  have hd : decide (xs = xs) = true := decide_eq_true rfl
  clear hlen hrd hO
  go_enter Try.func23, Try.ntmps23
  go_wp2_with (go_at_call 25; refine HS.out.mono ?_; rintro e w1 ⟨rfl, mm, rfl⟩; have k2 := k1 mm; rw [hd])
  go_ret
  exact ⟨rfl, mm, rfl⟩
end Go.Proofs.Ytfdfpimilmhhoaa
