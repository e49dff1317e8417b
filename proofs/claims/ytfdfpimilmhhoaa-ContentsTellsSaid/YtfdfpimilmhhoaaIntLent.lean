/-
  bowdlerbook.LentInts and StaysInts.
-/
import Derived.Test.YtfdfpimilmhhoaaIntRows2
namespace Go.Proofs.Ytfdfpimilmhhoaa
open Go.RowKit
set_option linter.unusedVariables false

def markN : Int := -77
set_option maxHeartbeats 1000000 in
set_option maxRecDepth 100000 in
theorem lentInts_any (A : Option Addr) (n c K : Nat) (xs : List Int) (w : World) (hr : Reads w K 1 A n (inCells xs)) (hn : n ≤ 1000000) :
    Calls Try.prog 7 #[.slice A n c] w fun e w' => ∃ B d, e = .returned (.slice B n d) ∧ Own w' w.heap.size 3 1 B (n + 1) d (inCells (xs ++ [markN])) ∧ Below w.heap.size w w' := by
  go_enter Try.func7, Try.ntmps7
  go_wp2_with (first
    | (go_at_call 30; refine (copyInts_any A n c K xs w hr (by omega)).mono ?_; rintro e w1 ⟨A1, c1, rfl, hO1, b1⟩
       have hz1 := b1.size)
    | (at_builtin; refine wpList_app1 Try.elInts rfl (.tmp 4) (.tmp 5) rfl rfl (by exact hO1.alloc _) rfl (Blk.new' _ _ _ _ (by simp)) rfl (by simp [Value.oneCell']) (by simp only [maxLen]; omega) (by omega) (by simp; omega) ?_
       intro B d w2 hO2 ho2 hm2
       obtain ⟨q, rfl, _, _⟩ := hO2.some_ (by omega)
       have hcap := hO2.cap))
  go_ret
  exact ⟨_, _, rfl, by simpa [inCells, markN] using hO2, b1.trans (ho2.of_alloc.below (fun a ha => (hO1.lt ha).1) hz1)⟩
set_option maxHeartbeats 1000000 in
set_option maxRecDepth 100000 in
theorem staysInts_any (B A : Option Addr) (n d c K base : Nat) (xs : List Int) (w : World) (hO : Own w base 3 1 B (n + 1) d (inCells (xs ++ [markN]))) (hr : Reads w K 1 A n (inCells xs)) (hn : n ≤ 1000000) :
    Calls Try.prog 15 #[.slice B n d, .slice A n c] w fun e w' => e = .returned (.bool true) ∧ ∃ m, w' = w.drewN m := by
  have hlen : xs.length = n := by have := hr.1; simpa using this
  obtain ⟨q, rfl, _, _⟩ := hO.some_ (by omega)
  have hcap := hO.cap
  have k1 : ∀ m, (w.drewN m).cell? ⟨q, n, none⟩ = some (.int .i64 markN) := fun m => (hO.drewN m).cell (by rw [← hlen]; simp [inCells])
  have hrd : Reads w w.heap.size 1 (some ⟨q, 0, none⟩) n (inCells xs) := by
    have h1 := (hO.take (m := n) (by omega)).reads
    have : (inCells (xs ++ [markN])).take (n * 1) = inCells xs := by
      rw [Nat.mul_one]
      unfold inCells
      rw [← List.map_take, List.take_append_of_le_length (by omega), List.take_of_length_le (by omega)]
    rw [this] at h1
    exact h1
  have HS := Lib.hid (sameInts_any (some ⟨q, 0, none⟩) A n n d c (w.heap.size + K) xs xs w (hrd.more (by omega)) (hr.more (by omega)) (by omega) (by omega))
  have hd : decide (xs = xs) = true := decide_eq_true rfl
  have hmk : (markN == -77) = true := by decide
  clear hlen hrd hO
  go_enter Try.func15, Try.ntmps15
  go_wp2_with (go_at_call 11; refine HS.out.mono ?_; rintro e w1 ⟨rfl, mm, rfl⟩; have k2 := k1 mm; rw [hd])
  go_ret
  exact ⟨rfl, mm, rfl⟩
end Go.Proofs.Ytfdfpimilmhhoaa
