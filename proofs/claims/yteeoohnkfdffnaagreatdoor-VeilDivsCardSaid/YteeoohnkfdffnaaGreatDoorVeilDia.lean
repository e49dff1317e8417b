/-
  bowdlerlaw7.Diamond; veil.signs: contracts.
-/
import Derived.Test.YteeoohnkfdffnaaGreatDoorVeilNew
import Derived.Laws.ResultCell
namespace Go.Proofs.YteeoohnkfdffnaaGreatDoor
open Go.RowKit
set_option linter.unusedVariables false

def diaN : List ByteArray := [⟨#[108, 111, 119]⟩, ⟨#[108, 101, 102, 116]⟩, ⟨#[114, 105, 103, 104, 116]⟩, ⟨#[104, 105, 103, 104]⟩]
def diaP : List (Int × Int) := [(0, 1), (0, 2), (1, 3), (2, 3)]
def diaL : LatT := ⟨4, [15, 10, 12, 8], [[0, 1, 2, 3], [1, 1, 3, 3], [2, 3, 2, 3], [3, 3, 3, 3]], [[0, 0, 0, 0], [0, 1, 0, 1], [0, 0, 2, 2], [0, 1, 2, 3]]⟩
theorem dia_right : rightT diaN diaP = true := by decide +kernel
theorem dia_new (x : ByteArray) : newV diaN diaP x = if idxT diaN x < 0 then (2, none) else (0, some ⟨diaN, diaL, (idxT diaN x).toNat⟩) := by
  have h : newT diaN.length diaP = some diaL := diamond_p
  unfold newV
  rw [dia_right, if_pos rfl, h]

theorem results_cell1 {fn : Func} {p : Tmp} {ty : TypeId} (h : fn.results = #[.cell p ty]) (tmps : Array Value) (P : Program) (w : World) :
    (results fn tmps).run P w = ((asAddr (tmps.getD p undef)).run P w).andThen fun a w₁ => (loadVar ty a).run P w₁ := by
  simp only [results, h]
  simp [Sem.run_bind, Result.andThen]

set_option maxHeartbeats 2000000 in
set_option maxRecDepth 100000 in
theorem diamond_any (w : World) : Calls Tryz.prog 25 #[] w fun e w' => ∃ A B, e = .returned (.agg #[.slice A 4 4, .slice B 4 4]) ∧ Reads w' w'.heap.size 1 A 4 (txCells diaN) ∧ Reads w' w'.heap.size 2 B 4 (prCells diaP) ∧ Below w.heap.size w w' := by
  go_enter Tryz.func25, Tryz.ntmps25
  go_wp2_with fail
  have B1 := (Blk.new' (w.alloc (.cells #[.slice (some ⟨w.heap.size + 1, 0, none⟩) 4 4, .slice (some ⟨w.heap.size + 1 + 1, 0, none⟩) 4 4] 26)) 9 #[.string ⟨#[108, 111, 119]⟩, .string ⟨#[108, 101, 102, 116]⟩, .string ⟨#[114, 105, 103, 104, 116]⟩, .string ⟨#[104, 105, 103, 104]⟩] (w.heap.size + 1) (by simp)).alloc (.cells #[.int .i64 0, .int .i64 1, .int .i64 0, .int .i64 2, .int .i64 1, .int .i64 3, .int .i64 2, .int .i64 3] 60)
  have B2 := Blk.new' ((w.alloc (.cells #[.slice (some ⟨w.heap.size + 1, 0, none⟩) 4 4, .slice (some ⟨w.heap.size + 1 + 1, 0, none⟩) 4 4] 26)).alloc (.cells #[.string ⟨#[108, 111, 119]⟩, .string ⟨#[108, 101, 102, 116]⟩, .string ⟨#[114, 105, 103, 104, 116]⟩, .string ⟨#[104, 105, 103, 104]⟩] 9)) 60 #[.int .i64 0, .int .i64 1, .int .i64 0, .int .i64 2, .int .i64 1, .int .i64 3, .int .i64 2, .int .i64 3] (w.heap.size + 1 + 1) (by simp)
  have B0 := ((Blk.new w 26 #[.slice (some ⟨w.heap.size + 1, 0, none⟩) 4 4, .slice (some ⟨w.heap.size + 1 + 1, 0, none⟩) 4 4]).alloc (.cells #[.string ⟨#[108, 111, 119]⟩, .string ⟨#[108, 101, 102, 116]⟩, .string ⟨#[114, 105, 103, 104, 116]⟩, .string ⟨#[104, 105, 103, 104]⟩] 9)).alloc (.cells #[.int .i64 0, .int .i64 1, .int .i64 0, .int .i64 2, .int .i64 1, .int .i64 3, .int .i64 2, .int .i64 3] 60)
  have hb : Below w.heap.size w (((w.alloc (.cells #[.slice (some ⟨w.heap.size + 1, 0, none⟩) 4 4, .slice (some ⟨w.heap.size + 1 + 1, 0, none⟩) 4 4] 26)).alloc (.cells #[.string ⟨#[108, 111, 119]⟩, .string ⟨#[108, 101, 102, 116]⟩, .string ⟨#[114, 105, 103, 104, 116]⟩, .string ⟨#[104, 105, 103, 104]⟩] 9)).alloc (.cells #[.int .i64 0, .int .i64 1, .int .i64 0, .int .i64 2, .int .i64 1, .int .i64 3, .int .i64 2, .int .i64 3] 60)) := (((Below.refl _ _).alloc (Nat.le_refl _) _).alloc (by simp) _).alloc (by simp; omega) _
  have b0 := B0.cell 0
  have b1 := B0.cell 1
  generalize ((w.alloc (.cells #[.slice (some ⟨w.heap.size + 1, 0, none⟩) 4 4, .slice (some ⟨w.heap.size + 1 + 1, 0, none⟩) 4 4] 26)).alloc (.cells #[.string ⟨#[108, 111, 119]⟩, .string ⟨#[108, 101, 102, 116]⟩, .string ⟨#[114, 105, 103, 104, 116]⟩, .string ⟨#[104, 105, 103, 104]⟩] 9)).alloc (.cells #[.int .i64 0, .int .i64 1, .int .i64 0, .int .i64 2, .int .i64 1, .int .i64 3, .int .i64 2, .int .i64 3] 60) = w3 at *
  try simp only [Exit.inBlock, Exit.then]
  refine bodyPost_ret (v := .agg #[.slice (some ⟨w.heap.size + 1, 0, none⟩) 4 4, .slice (some ⟨w.heap.size + 1 + 1, 0, none⟩) 4 4]) ?_ rfl ?_
  · rw [results_cell1 rfl]
    go_simp
  · refine ⟨some ⟨w.heap.size + 1, 0, none⟩, some ⟨w.heap.size + 1 + 1, 0, none⟩, rfl, ⟨by decide, fun _ => ⟨_, rfl, B1.lt, fun j u hu => ?_⟩⟩, ⟨by decide, fun _ => ⟨_, rfl, B2.lt, fun j u hu => ?_⟩⟩, hb⟩
    · rw [add_at, B1.cell j, ← Array.getElem?_toList]
      exact hu
    · rw [add_at, B2.cell j, ← Array.getElem?_toList]
      exact hu
end Go.Proofs.YteeoohnkfdffnaaGreatDoor
