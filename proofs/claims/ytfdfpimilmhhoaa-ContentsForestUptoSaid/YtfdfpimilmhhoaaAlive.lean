/-
  bowdlerlaw20.alive: it answers true.
-/
import Derived.Test.YtfdfpimilmhhoaaHtml
import Derived.Test.YtfdfpimilmhhoaaSameInts
namespace Go.Proofs.Ytfdfpimilmhhoaa
open Go.RowKit

/-- a new block of cells, as a slice that can be read -/
theorem reads_new (w : World) (t : TypeId) (cs : Array Value) (size m g : Nat) (hs : cs.size = m * size) (hg : w.heap.size = g) : Reads (w.alloc (.cells cs t)) (g + 1) size (some ⟨g, 0, none⟩) m cs.toList := by
  subst hg
  refine ⟨by simp [hs], fun _ => ⟨_, rfl, by simp, fun j u hu => ?_⟩⟩
  have : (⟨w.heap.size, 0, none⟩ : Addr).add j = ⟨w.heap.size, j, none⟩ := by unfold Addr.add; split <;> simp_all
  rw [this, (Blk.new w t cs).cell j]
  simpa using hu

def secA : Sec := ⟨1, S [49], S [97], S [65]⟩
theorem alive_d : dpDepths [] [2, 3, 3, 1, 4] = [0, 1, 1, 0, 1] := by decide
theorem alive_h : htmlT (keepTo 6 [secA]) true = [60, 110, 97, 118, 62, 10, 60, 117, 108, 62, 10, 60, 108, 105, 62, 60, 97, 32, 104, 114, 101, 102, 61, 34, 35, 115, 45, 97, 34, 62, 49, 32, 65, 60, 47, 97, 62, 60, 47, 108, 105, 62, 10, 60, 47, 117, 108, 62, 10, 60, 47, 110, 97, 118, 62, 10] := by
  decide +kernel

theorem alive_h' : S (htmlT (keepTo 6 [secA]) true) = ⟨#[60, 110, 97, 118, 62, 10, 60, 117, 108, 62, 10, 60, 108, 105, 62, 60, 97, 32, 104, 114, 101, 102, 61, 34, 35, 115, 45, 97, 34, 62, 49, 32, 65, 60, 47, 97, 62, 60, 47, 108, 105, 62, 10, 60, 47, 117, 108, 62, 10, 60, 47, 110, 97, 118, 62, 10]⟩ := congrArg S alive_h

set_option maxHeartbeats 1000000 in
set_option maxRecDepth 100000 in
theorem alive_any (w : World) : Calls Try.prog 6 #[] w fun e w' => e = .returned (.bool true) ∧ Below w.heap.size w w' := by
  have AD := Lib.hid alive_d
  have AH := Lib.hid alive_h'
  go_enter Try.func6, Try.ntmps6
  go_wp2_with fail
  refine (depths_any (some ⟨w.heap.size, 0, none⟩) 5 5 [2, 3, 3, 1, 4] _ ((reads_new w _ _ 1 5 _ rfl rfl).more (by simp)) (by omega)).mono ?_
  rintro e w1 ⟨A1, c1, rfl, hd1, b1⟩
  rw [AD.out] at hd1
  have bb1 : Below w.heap.size w w1 := ((Below.refl _ _).alloc (Nat.le_refl _) _).trans (b1.mono (by simp))
  have z1 := bb1.size
  clear b1
  go_wp2_with fail
  refine (html_any (some ⟨w1.heap.size, 0, none⟩) 1 1 [secA] 6 true _ ((reads_new w1 _ _ 4 1 _ rfl rfl).more (by simp)) (by omega) (by intro x hx; simp at hx; subst hx; simp [secA])).mono ?_
  rintro e w2 ⟨rfl, b2⟩
  rw [AH.out]
  have hd2 := (hd1.alloc _).below b2 (Nat.le_refl _)
  have bb2 : Below w.heap.size w w2 := (bb1.alloc z1 _).trans (b2.mono (by simp; omega))
  have z2 := bb2.size
  clear b2 bb1 hd1 z1
  go_wp2_with fail
  refine (sameInts_any A1 (some ⟨w2.heap.size, 0, none⟩) 5 5 c1 5 (w2.heap.size + 1) [0, 1, 1, 0, 1] [0, 1, 1, 0, 1] _ ((hd2.alloc _).reads.more (by simp)) (reads_new w2 _ _ 1 5 _ rfl rfl) (by omega) (by omega)).mono ?_
  rintro e w3 ⟨rfl, m, rfl⟩
  have hdec : decide (([0, 1, 1, 0, 1] : List Int) = [0, 1, 1, 0, 1]) = true := by decide
  rw [hdec]
  go_wp2_with fail
  go_ret
  exact ⟨rfl, below_drewN' (bb2.alloc z2 _) _⟩
end Go.Proofs.Ytfdfpimilmhhoaa
