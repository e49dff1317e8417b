/-
  bowdlerlaw9.alive: it answers true.
-/
import Derived.Test.YtommebalgghdjaaDoorBlockRight
import Derived.Test.YtommebalgghdjaaDoorBlockPlain
import Derived.Laws.StructEq
namespace Go.Proofs.YtommebalgghdjaaDoor
open Go.RowKit

def aliveBs : List BlockT := [⟨4, 0, -1, false, [], [45]⟩, ⟨5, 1, 0, false, [], []⟩, ⟨1, 2, 0, false, [97], []⟩, ⟨5, 1, 0, false, [], []⟩, ⟨1, 2, 0, false, [98], []⟩]
theorem aliveB_p : parseT [[45, 32, 97], [], [45, 32, 98]] = aliveBs := by decide +kernel
theorem aliveB_r : rightB aliveBs = true := by decide +kernel
theorem lnOk_of {xs : List ByteArray} (h : ∀ x ∈ xs, x.size ≤ 262144) : LnOk xs := fun x hx => by
  have h1 := mu_le (L x)
  have h2 := h x hx
  rw [length_L] at h1
  omega
/-- a new block of cells, as a slice that can be read -/
theorem reads_fresh (w : World) (t : TypeId) (cs : Array Value) (size m g : Nat) (hs : cs.size = m * size) (hg : w.heap.size = g) : Reads (w.alloc (.cells cs t)) (g + 1) size (some ⟨g, 0, none⟩) m cs.toList := by
  subst hg
  refine ⟨by simp [hs], fun _ => ⟨_, rfl, by simp, fun j u hu => ?_⟩⟩
  have : (⟨w.heap.size, 0, none⟩ : Addr).add j = ⟨w.heap.size, j, none⟩ := by unfold Addr.add; split <;> simp_all
  rw [this, (Blk.new w t cs).cell j]
  simpa using hu

set_option maxHeartbeats 2000000 in
set_option maxRecDepth 100000 in
theorem aliveB_any (w : World) : Calls Tryd.prog 16 #[] w fun e w' => e = .returned (.bool true) ∧ Below w.heap.size w w' := by
  have hp := parse_any (w.heap.size + 1) [⟨#[45, 32, 97]⟩, ⟨#[]⟩, ⟨#[45, 32, 98]⟩] (some ⟨w.heap.size, 0, none⟩) 3 3 (w.alloc (.cells #[.string ⟨#[45, 32, 97]⟩, .string ⟨#[]⟩, .string ⟨#[45, 32, 98]⟩] 9))
    (reads_fresh w _ _ 1 3 _ rfl rfl) (by simp) (lnOk_of (by
      intro x hx
      simp only [List.mem_cons, List.not_mem_nil, or_false] at hx
      rcases hx with rfl | rfl | rfl <;> decide)) (by decide) (by decide)
  rw [show ([⟨#[45, 32, 97]⟩, ⟨#[]⟩, ⟨#[45, 32, 98]⟩] : List ByteArray).map L = [[45, 32, 97], [], [45, 32, 98]] from rfl, aliveB_p] at hp
  have HP := Lib.hid hp
  have HR := Lib.hid aliveB_r
  clear hp
  have bA : Below w.heap.size w (w.alloc (.cells #[.string ⟨#[45, 32, 97]⟩, .string ⟨#[]⟩, .string ⟨#[45, 32, 98]⟩] 9)) := (Below.refl _ _).alloc (Nat.le_refl _) _
  go_enter Tryd.func16, Tryd.ntmps16
  go_wp2_with fail
  refine HP.out.mono ?_
  rintro e w1 ⟨A, m, c, rfl, hm, hO, b1⟩
  have bb1 := bA.trans (b1.mono (by simp))
  clear HP b1 bA
  have hm5 : m = 5 := hm.symm
  subst hm5
  obtain ⟨g, rfl, _, _⟩ := hO.some_ (by omega)
  have hz1 := bb1.size
  have hc := fun j u (h : (blkCells aliveBs)[j]? = some u) => hO.cell h
  have k0 := hc 0 _ rfl
  have k1 := hc 1 _ rfl
  have k2 := hc 2 _ rfl
  have k3 := hc 3 _ rfl
  have k4 := hc 4 (.string ⟨#[]⟩) rfl
  have k5 := hc 5 (.string ⟨#[45]⟩) rfl
  have k6 := hc 6 _ rfl
  have k12 := hc 12 _ rfl
  have k13 := hc 13 _ rfl
  have k14 := hc 14 _ rfl
  have k15 := hc 15 _ rfl
  have k16 := hc 16 (.string ⟨#[97]⟩) rfl
  have k17 := hc 17 (.string ⟨#[]⟩) rfl
  have k28 := hc 28 (.string ⟨#[98]⟩) rfl
  have HRT := Lib.hid (right_any (some ⟨g, 0, none⟩) 5 c w1.heap.size aliveBs w1 hO.reads (by decide) (Nat.le_refl _))
  clear hc hO
  go_wp2_with fail
  refine HRT.out.mono ?_
  rintro e w2 ⟨rfl, b2⟩
  rw [HR.out]
  go_wp2_with fail
  go_ret
  exact ⟨rfl, bb1.trans (b2.mono hz1)⟩
end Go.Proofs.YtommebalgghdjaaDoor
