/-
  bowdlerlaw4.alive: it answers true.
-/
import Derived.Test.YtofloedgclodnaaDoorPolWords
import Derived.Test.YtofloedgclodnaaDoorPolWrite
import Derived.Test.YtofloedgclodnaaDoorPolSame
namespace Go.Proofs.YtofloedgclodnaaDoor
open Go.RowKit
attribute [local go_sem] pairEq

theorem alive4_l : linesB (S (repT ⟨#[108, 101, 118, 101, 108, 32, 108, 111, 119, 10, 35, 32, 97, 108, 108, 10, 108, 101, 118, 101, 108, 32, 104, 105, 103, 104, 10, 108, 111, 119, 32, 60, 32, 104, 105, 103, 104, 10]⟩)) = [⟨#[108, 101, 118, 101, 108, 32, 108, 111, 119]⟩, ⟨#[35, 32, 97, 108, 108]⟩, ⟨#[108, 101, 118, 101, 108, 32, 104, 105, 103, 104]⟩, ⟨#[108, 111, 119, 32, 60, 32, 104, 105, 103, 104]⟩] := by decide +kernel
theorem alive4_p : parseT ⟨#[108, 101, 118, 101, 108, 32, 108, 111, 119, 10, 35, 32, 97, 108, 108, 10, 108, 101, 118, 101, 108, 32, 104, 105, 103, 104, 10, 108, 111, 119, 32, 60, 32, 104, 105, 103, 104, 10]⟩ = some ([⟨#[108, 111, 119]⟩, ⟨#[104, 105, 103, 104]⟩], [(0, 1)]) := by
  rw [parseT_eq, alive4_l]; decide +kernel
theorem alive4_r : rightT [⟨#[108, 111, 119]⟩, ⟨#[104, 105, 103, 104]⟩] [(0, 1)] = true := by decide +kernel
theorem alive4_w : writeT [⟨#[108, 111, 119]⟩, ⟨#[104, 105, 103, 104]⟩] [(0, 1)] = ⟨#[108, 101, 118, 101, 108, 32, 108, 111, 119, 10, 108, 101, 118, 101, 108, 32, 104, 105, 103, 104, 10, 108, 111, 119, 32, 60, 32, 104, 105, 103, 104, 10]⟩ := by
  unfold writeT; rw [if_pos alive4_r]; decide +kernel
theorem alive4_i : idxT [⟨#[108, 111, 119]⟩, ⟨#[104, 105, 103, 104]⟩] ⟨#[104, 105, 103, 104]⟩ = 1 := by decide +kernel

set_option maxHeartbeats 1000000 in
set_option maxRecDepth 100000 in
theorem alive4_any (w : World) (hg : Glb w) : Calls Tryd.prog 16 #[] w fun e w' => e = .returned (.bool true) ∧ Below w.heap.size w w' := by
  have AP := Lib.hid alive4_p
  have AW := Lib.hid alive4_w
  have AR := Lib.hid alive4_r
  have AI := Lib.hid alive4_i
  go_enter Tryd.func16, Tryd.ntmps16
  go_wp2_with fail
  refine (parse_any _ _ hg (by decide)).mono ?_
  rintro e w1 ⟨b1, -, h1⟩
  obtain ⟨A, n, c, B, m, d, rfl, hX, hP⟩ := h1 _ AP.out
  clear h1
  have hn : n = 2 := by have := hX.len; simpa [txCells] using this.symm
  have hm : m = 1 := by have := hP.len; rw [prCells_length] at this; simp at this; omega
  subst hn hm
  have z1 := b1.size
  have bb1 : Below w.heap.size w (w1.alloc (.cells #[.slice A 2 c, .slice B 1 d] 25)) := b1.alloc z1 _
  have B0 : Blk (w1.alloc (.cells #[.slice A 2 c, .slice B 1 d] 25)) w1.heap.size 25 #[.slice A 2 c, .slice B 1 d] := Blk.new _ _ _
  have rX := (hX.alloc (.cells #[.slice A 2 c, .slice B 1 d] 25)).reads
  have rP := (hP.alloc (.cells #[.slice A 2 c, .slice B 1 d] 25)).reads
  have hsz : ∀ x ∈ [(⟨#[108, 111, 119]⟩ : ByteArray), ⟨#[104, 105, 103, 104]⟩], x.size ≤ 9223372036854775807 := by
    intro x hx
    rcases List.mem_cons.1 hx with rfl | hx
    · decide
    · rw [List.mem_singleton.1 hx]; decide
  have q0 := B0.cell 0
  have q1 := B0.cell 1
  obtain ⟨a0, rfl, hP0, hP1⟩ : ∃ a0, B = some a0 ∧ (w1.alloc (.cells #[.slice A 2 c, .slice B 1 d] 25)).cell? a0 = some (.int .i64 0) ∧ (w1.alloc (.cells #[.slice A 2 c, .slice B 1 d] 25)).cell? ⟨a0.block, a0.off + 1, none⟩ = some (.int .i64 1) := by
    obtain ⟨g, e, _, _⟩ := hP.some_ (by omega)
    subst e
    have hP' := hP.alloc (.cells #[.slice A 2 c, .slice (some ⟨g, 0, none⟩) 1 d] 25)
    exact ⟨_, rfl, hP'.cell (j := 0) rfl, by have := hP'.cell (j := 1) (u := .int .i64 1) rfl; simpa using this⟩
  have W1 := write_any A (some a0) 2 c 1 d _ _ _ _ rX (rP.more (by omega)) (Nat.le_refl _) (by omega) (by omega) hsz
  rw [AW.out, AR.out] at W1
  have HW := Lib.hid W1
  clear W1
  go_wp2_with fail
  refine HW.out.mono ?_
  rintro e w3 ⟨rfl, b3⟩
  clear HW
  have hA0 : a0.block < w1.heap.size + 1 := by have := World.block_lt_of_cell? _ _ hP0; simpa using this
  have s3 : (w1.alloc (.cells #[.slice A 2 c, .slice (some a0) 1 d] 25)).heap.size = w1.heap.size + 1 := by simp
  have q0 : w3.cell? ⟨w1.heap.size, 0, none⟩ = some (.slice A 2 c) := (b3.cell (by rw [s3]; show w1.heap.size < _; omega)).trans q0
  have q1 : w3.cell? ⟨w1.heap.size, 1, none⟩ = some (.slice (some a0) 1 d) := (b3.cell (by rw [s3]; show w1.heap.size < _; omega)).trans q1
  have p0 : w3.cell? a0 = some (.int .i64 0) := (b3.cell (by rw [s3]; exact hA0)).trans hP0
  have p1 : w3.cell? ⟨a0.block, a0.off + 1, none⟩ = some (.int .i64 1) := (b3.cell (by rw [s3]; exact hA0)).trans hP1
  have rX3 := rX.below b3
  have bb3 := bb1.trans (b3.mono (by rw [s3]; omega))
  have z3 := bb3.size
  have z4 : w1.heap.size + 1 ≤ w3.heap.size := by have := b3.size; rw [s3] at this; exact this
  rw [s3] at rX3
  clear s3 B0 rX rP hX hP hP0 hP1 b1 bb1 b3
  go_wp2_with (go_at_call 21; refine (index_any A (some a0) 2 c 1 d _ _ _ _ rX3 z4 (by omega)).mono ?_; rintro e w4 ⟨rfl, b4⟩; rw [AI.out])
  go_ret
  exact ⟨rfl, bb3.trans (b4.mono z3)⟩
end Go.Proofs.YtofloedgclodnaaDoor
