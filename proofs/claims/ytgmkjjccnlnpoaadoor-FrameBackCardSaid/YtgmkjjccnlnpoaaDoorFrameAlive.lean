/-
  bowdlerlaw6.alive: it answers true.
-/
import Derived.Test.YtgmkjjccnlnpoaaDoorFrameParse
import Derived.Test.YtgmkjjccnlnpoaaDoorFrameSpans
import Derived.Test.YtgmkjjccnlnpoaaDoorFrameHead
namespace Go.Proofs.YtgmkjjccnlnpoaaDoor
open Go.RowKit

theorem alive6_p : (frT [⟨#[97]⟩, ⟨#[58, 58, 58, 123, 120, 125]⟩, ⟨#[98]⟩, ⟨#[58, 58, 58]⟩]).out = [⟨0, false, ⟨#[]⟩, false, [⟨#[97]⟩]⟩, ⟨0, true, ⟨#[120]⟩, false, []⟩, ⟨1, false, ⟨#[]⟩, false, [⟨#[98]⟩]⟩] := by decide +kernel
theorem alive6_s : spansT ⟨#[97, 123, 124, 120, 58, 98, 124, 125]⟩ = [⟨false, ⟨#[]⟩, ⟨#[97]⟩⟩, ⟨true, ⟨#[120]⟩, ⟨#[98]⟩⟩] := by decide +kernel
theorem alive6_h : headedT (L ⟨#[35, 35, 32, 65, 32, 123, 61, 120, 125]⟩) = some ([35, 35, 32, 65, 32], [120]) := by decide +kernel

theorem alive6_v : headedV (headedT (L ⟨#[35, 35, 32, 65, 32, 123, 61, 120, 125]⟩)) = .tuple #[.string ⟨#[35, 35, 32, 65, 32]⟩, .string ⟨#[120]⟩, .bool true] := by rw [alive6_h]; rfl

/-- a new block of cells, as a slice that can be read -/
theorem reads_fresh (w : World) (t : TypeId) (cs : Array Value) (size m g : Nat) (hs : cs.size = m * size) (hg : w.heap.size = g) : Reads (w.alloc (.cells cs t)) (g + 1) size (some ⟨g, 0, none⟩) m cs.toList := by
  subst hg
  refine ⟨by simp [hs], fun _ => ⟨_, rfl, by simp, fun j u hu => ?_⟩⟩
  have : (⟨w.heap.size, 0, none⟩ : Addr).add j = ⟨w.heap.size, j, none⟩ := by unfold Addr.add; split <;> simp_all
  rw [this, (Blk.new w t cs).cell j]
  simpa using hu

set_option maxHeartbeats 1500000 in
set_option maxRecDepth 100000 in
theorem alive6_any (w : World) (hg : Glb w) : Calls Tryd.prog 7 #[] w fun e w' => e = .returned (.bool true) ∧ Below w.heap.size w w' := by
  have AP := Lib.hid alive6_p
  have AS := Lib.hid alive6_s
  have AH := Lib.hid alive6_v
  have hp := frParse_any (some ⟨w.heap.size, 0, none⟩) 4 4 (w.heap.size + 1) [⟨#[97]⟩, ⟨#[58, 58, 58, 123, 120, 125]⟩, ⟨#[98]⟩, ⟨#[58, 58, 58]⟩] (w.alloc (.cells #[.string ⟨#[97]⟩, .string ⟨#[58, 58, 58, 123, 120, 125]⟩, .string ⟨#[98]⟩, .string ⟨#[58, 58, 58]⟩] 9))
    (reads_fresh w _ _ 1 4 _ rfl rfl) (by simp) (by omega) (by
      intro x hx
      simp only [List.mem_cons, List.not_mem_nil, or_false] at hx
      rcases hx with rfl | rfl | rfl | rfl <;> decide)
  rw [AP.out] at hp
  have HP := Lib.hid hp
  clear hp
  have bA : Below w.heap.size w (w.alloc (.cells #[.string ⟨#[97]⟩, .string ⟨#[58, 58, 58, 123, 120, 125]⟩, .string ⟨#[98]⟩, .string ⟨#[58, 58, 58]⟩] 9)) := (Below.refl _ _).alloc (Nat.le_refl _) _
  go_enter Tryd.func7, Tryd.ntmps7
  go_wp2_with fail
  refine HP.out.mono ?_
  rintro e w1 ⟨A, m, c, ps, rfl, hP, hout, b1⟩
  have bb1 := bA.trans (b1.mono (by simp))
  clear HP b1 bA
  have hm := hP.len
  obtain ⟨p0, p1, p2, rfl⟩ : ∃ p0 p1 p2, ps = [p0, p1, p2] := by
    have := congrArg List.length hout
    match ps, this with
    | [a, b, c], _ => exact ⟨a, b, c, rfl⟩
  have hm3 : m = 3 := by simpa using hm.symm
  subst hm3
  simp only [List.map_cons, List.map_nil, List.cons.injEq, and_true] at hout
  obtain ⟨_, ht1, ht2⟩ := hout
  obtain ⟨g, rfl, _, _⟩ := hP.1.some_ (by omega)
  have hg1 := hg.below bb1
  have hz1 := bb1.size
  go_wp2_with fail
  refine (spans_any _ w1 hg1 (by decide)).mono ?_
  rintro e w2 ⟨B, n2, c2, rfl, hS, b2⟩
  rw [AS.out] at hS
  have hn2 : n2 = 2 := by have := hS.len; rw [pieces_length] at this; simp at this; omega
  subst hn2
  obtain ⟨g2, rfl, _, _⟩ := hS.some_ (by omega)
  have hP2 := hP.below b2 (Nat.le_refl _)
  have bb2 := bb1.trans (b2.mono hz1)
  have hz2 := bb2.size
  clear hP b2 bb1 hg1
  go_wp2_with fail
  refine (heading_any _ w2 (by decide)).mono ?_
  rintro e w3 ⟨rfl, b3⟩
  rw [AH.out]
  have hP3 := hP2.below b3 (Nat.le_refl _)
  have hS3 := hS.below b3 (Nat.le_refl _)
  have bb3 := bb2.trans (b3.mono hz2)
  clear hP2 hS b3 bb2
  obtain ⟨_, c11, c12, c13, _⟩ := hP3.cells_at (i := 1) (p := p1) rfl
  obtain ⟨c20, _, _, _, _⟩ := hP3.cells_at (i := 2) (p := p2) rfl
  rw [ht1] at c11 c12 c13
  rw [ht2] at c20
  have s3 : w3.cell? ⟨g2, 3, none⟩ = some (.bool true) := hS3.cell (j := 3) rfl
  have s5 : w3.cell? ⟨g2, 5, none⟩ = some (.string ⟨#[98]⟩) := hS3.cell (j := 5) rfl
  simp only [Nat.one_mul, Nat.reduceAdd, Nat.reduceMul] at c11 c12 c13 c20
  clear hP3 hS3
  go_wp2_with fail
  go_ret
  exact ⟨rfl, bb3⟩
end Go.Proofs.YtgmkjjccnlnpoaaDoor
