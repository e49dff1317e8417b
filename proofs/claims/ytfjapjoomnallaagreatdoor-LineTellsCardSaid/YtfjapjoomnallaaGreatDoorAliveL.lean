/-
  bowdlerlaw2.alive: it answers true.
-/
import Derived.Test.YtfjapjoomnallaaGreatDoorLine2
import Derived.Test.YtfjapjoomnallaaGreatDoorLine
namespace Go.Proofs.YtfjapjoomnallaaGreatDoor
open Go.RowKit

/-- a new block of cells, as a slice that can be read -/
theorem reads_new (w : World) (t : TypeId) (cs : Array Value) (size m g : Nat) (hs : cs.size = m * size) (hg : w.heap.size = g) : Reads (w.alloc (.cells cs t)) (g + 1) size (some ⟨g, 0, none⟩) m cs.toList := by
  subst hg
  refine ⟨by simp [hs], fun _ => ⟨_, rfl, by simp, fun j u hu => ?_⟩⟩
  have : (⟨w.heap.size, 0, none⟩ : Addr).add j = ⟨w.heap.size, j, none⟩ := by unfold Addr.add; split <;> simp_all
  rw [this, (Blk.new w t cs).cell j]
  simpa using hu

theorem alive_s : linesB ⟨#[97, 10, 10, 98]⟩ = [⟨#[97]⟩, ⟨#[]⟩, ⟨#[98]⟩] := by decide +kernel
theorem alive_j : S (joinT ([⟨#[97]⟩, ⟨#[98]⟩].map L)) = ⟨#[97, 10, 98, 10]⟩ := by decide +kernel
theorem alive_jl : (joinT ([⟨#[97]⟩, ⟨#[98]⟩].map L)).length ≤ 140737488355328 := by
  have h : (joinT ([⟨#[97]⟩, ⟨#[98]⟩].map L)).length = 4 := by decide +kernel
  omega
theorem alive_i : colT 0 (L ⟨#[32, 9, 97]⟩) = 4 := by decide +kernel
theorem alive_t : S (stripT (L ⟨#[9, 97]⟩) 2) = ⟨#[32, 32, 97]⟩ := by decide +kernel
theorem alive_b : blankT (L ⟨#[32, 9]⟩) = true := by decide +kernel

set_option maxHeartbeats 1000000 in
set_option maxRecDepth 100000 in
theorem alive_any (w : World) (hg : Glb w) : Calls Tryz.prog 4 #[] w fun e w' => e = .returned (.bool true) ∧ Below w.heap.size w w' := by
  have AS := Lib.hid alive_s
  have AJ := Lib.hid alive_j
  have AI := Lib.hid alive_i
  have AT := Lib.hid alive_t
  have AB := Lib.hid alive_b
  go_enter Tryz.func4, Tryz.ntmps4
  go_wp2_with fail
  refine (split_any _ _ hg (by decide)).mono ?_
  rintro e w1 ⟨A1, n1, c1, rfl, hd1, b1⟩
  rw [AS.out] at hd1
  have hn1 : n1 = 3 := by have := hd1.len; simpa [txCells] using this.symm
  subst hn1
  have z1 := b1.size
  go_wp2_with fail
  refine (sameTexts_any A1 (some ⟨w1.heap.size, 0, none⟩) 3 3 c1 3 (w1.heap.size + 1) [⟨#[97]⟩, ⟨#[]⟩, ⟨#[98]⟩] [⟨#[97]⟩, ⟨#[]⟩, ⟨#[98]⟩] _ ((hd1.alloc _).reads.more (by simp)) (reads_new w1 _ _ 1 3 _ rfl rfl) (by omega) (by omega)).mono ?_
  rintro e w2 ⟨rfl, m2, hw2⟩
  rw [show decide (([⟨#[97]⟩, ⟨#[]⟩, ⟨#[98]⟩] : List ByteArray) = [⟨#[97]⟩, ⟨#[]⟩, ⟨#[98]⟩]) = true from decide_eq_true rfl]
  have bb2 : Below w.heap.size w w2 := by rw [hw2]; exact below_drewN' (b1.alloc z1 _) m2
  clear hd1 b1 hw2
  have z2 := bb2.size
  go_wp2_with fail
  refine (join_any (some ⟨w2.heap.size, 0, none⟩) 2 2 (w2.heap.size + 1) [⟨#[97]⟩, ⟨#[98]⟩] _ (reads_new w2 _ _ 1 2 _ rfl rfl) (by simp) alive_jl).mono ?_
  rintro e w3 ⟨rfl, b3⟩
  rw [AJ.out]
  have bb3 := (bb2.alloc z2 _).trans (b3.mono (by simp; omega))
  have z3 := bb3.size
  clear b3 bb2
  go_wp2_with fail
  refine (indent_any _ _ (by decide)).mono ?_
  rintro e w4 ⟨rfl, b4⟩
  rw [AI.out]
  have bb4 := bb3.trans (b4.mono z3)
  have z4 := bb4.size
  clear b4 bb3
  go_wp2_with fail
  refine (strip_any _ _ _ (by decide) (by omega)).mono ?_
  rintro e w5 ⟨rfl, b5⟩
  rw [AT.out]
  have bb5 := bb4.trans (b5.mono z4)
  have z5 := bb5.size
  clear b5 bb4
  go_wp2_with fail
  refine (blank_any _ _ (by decide)).mono ?_
  rintro e w6 ⟨rfl, b6⟩
  rw [AB.out]
  have bb6 := bb5.trans (b6.mono z5)
  clear b6 bb5
  go_wp2_with fail
  go_ret
  exact ⟨rfl, bb6⟩
end Go.Proofs.YtfjapjoomnallaaGreatDoor
