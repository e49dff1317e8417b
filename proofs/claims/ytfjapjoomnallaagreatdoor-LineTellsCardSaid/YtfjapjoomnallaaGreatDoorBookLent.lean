/-
  bowdlerbook.LentTexts and StaysTexts.
-/
import Derived.Test.YtfjapjoomnallaaGreatDoorBookTexts2
namespace Go.Proofs.YtfjapjoomnallaaGreatDoor
open Go.RowKit
set_option linter.unusedVariables false

def markB : ByteArray := { data := #[109, 97, 114, 107] }
set_option maxHeartbeats 1000000 in
set_option maxRecDepth 100000 in
theorem lentTexts_any (A : Option Addr) (n c K : Nat) (xs : List ByteArray) (w : World) (hr : Reads w K 1 A n (txCells xs)) (hn : n ≤ 1000000) :
    Calls Tryz.prog 7 #[.slice A n c] w fun e w' => ∃ B d, e = .returned (.slice B n d) ∧ Own w' w.heap.size 9 1 B (n + 1) d (txCells (xs ++ [markB])) ∧ Below w.heap.size w w' := by
  go_enter Tryz.func7, Tryz.ntmps7
  go_wp2_with (first
    | (go_at_call 23; refine (copyTexts_any A n c K xs w hr (by omega)).mono ?_; rintro e w1 ⟨A1, c1, rfl, hO1, b1⟩
       have hz1 := b1.size)
    | (at_builtin; refine wpList_app1 Tryz.elTexts rfl (.tmp 4) (.tmp 5) rfl rfl (by exact hO1.alloc _) rfl (Blk.new' _ _ _ _ (by simp)) rfl (by simp [Value.oneCell']) (by simp only [maxLen]; omega) (by omega) (by simp; omega) ?_
       intro B d w2 hO2 ho2 hm2
       obtain ⟨q, rfl, _, _⟩ := hO2.some_ (by omega)
       have hcap := hO2.cap))
  go_ret
  exact ⟨_, _, rfl, by simpa [txCells, markB] using hO2, b1.trans (ho2.of_alloc.below (fun a ha => (hO1.lt ha).1) hz1)⟩
set_option maxHeartbeats 1000000 in
set_option maxRecDepth 100000 in
theorem staysTexts_any (B A : Option Addr) (n d c K base : Nat) (xs : List ByteArray) (w : World) (hO : Own w base 9 1 B (n + 1) d (txCells (xs ++ [markB]))) (hr : Reads w K 1 A n (txCells xs)) (hn : n ≤ 1000000) :
    Calls Tryz.prog 12 #[.slice B n d, .slice A n c] w fun e w' => e = .returned (.bool true) ∧ ∃ m, w' = w.drewN m := by
  have hlen : xs.length = n := by have := hr.1; simpa using this
  obtain ⟨q, rfl, _, _⟩ := hO.some_ (by omega)
  have hcap := hO.cap
  have k1 : ∀ m, (w.drewN m).cell? ⟨q, n, none⟩ = some (.string markB) := fun m => (hO.drewN m).cell (by rw [← hlen]; simp [txCells])
  have hrd : Reads w w.heap.size 1 (some ⟨q, 0, none⟩) n (txCells xs) := by
    have h1 := (hO.take (m := n) (by omega)).reads
    have : (txCells (xs ++ [markB])).take (n * 1) = txCells xs := by
      rw [Nat.mul_one]
      unfold txCells
      rw [← List.map_take, List.take_append_of_le_length (by omega), List.take_of_length_le (by omega)]
    rw [this] at h1
    exact h1
  have HS := Lib.hid (sameTexts_any (some ⟨q, 0, none⟩) A n n d c (w.heap.size + K) xs xs w (hrd.more (by omega)) (hr.more (by omega)) (by omega) (by omega))
  have hd : decide (xs = xs) = true := decide_eq_true rfl
  have hmk : (markB.toList == [109, 97, 114, 107]) = true := by decide +kernel
  clear hlen hrd hO
  go_enter Tryz.func12, Tryz.ntmps12
  go_wp2_with (go_at_call 8; refine HS.out.mono ?_; rintro e w1 ⟨rfl, mm, rfl⟩; have k2 := k1 mm; rw [hd])
  go_ret
  exact ⟨rfl, mm, rfl⟩
end Go.Proofs.YtfjapjoomnallaaGreatDoor
