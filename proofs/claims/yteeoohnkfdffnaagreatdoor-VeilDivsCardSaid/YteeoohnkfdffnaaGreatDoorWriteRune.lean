/-
  (*strings.Builder).WriteRune: the library's contract, laid by hand (the one command passes over it at this dump).
-/
import Derived.Test.YteeoohnkfdffnaaGreatDoorGB
import Derived.Shelf.Strings.BuilderRune
namespace Go.Proofs.YteeoohnkfdffnaaGreatDoor
open Go.Shelf Go.RowKit
def Tryz.renRf (n : Nat) : Nat := if n = 168 then 61 else if n = 240 then 87 else if n = 242 then 88 else if n = 276 then 109 else if n = 278 then 110 else n
def Tryz.renRt (n : Nat) : Nat := match n with
  | 0 => 0
  | 3 => 3
  | 4 => 4
  | 5 => 5
  | 9 => 9
  | 20 => 20
  | 21 => 21
  | 37 => 103
  | 46 => 163
  | 51 => 155
  | 70 => 102
  | 72 => 105
  | 75 => 107
  | 80 => 112
  | 164 => 153
  | n => n
def Tryz.renR : Go.Shelf.Ren := ⟨Tryz.renRf, Tryz.renRt, fun n => n⟩
theorem Tryz.lays168 : Go.Proofs.Lays.n168 Tryz.prog Tryz.renR := {
  mixed := by kernel_rfl
  f168 := Tryz.func61.trans (congrArg some (by kernel_rfl))
  f240 := Tryz.func87.trans (congrArg some (by kernel_rfl))
  f242 := Tryz.func88.trans (congrArg some (by kernel_rfl))
  f276 := Tryz.func109.trans (congrArg some (by kernel_rfl))
  f278 := Tryz.func110.trans (congrArg some (by kernel_rfl))
  t0 := Tryz.underlying0, a0 := Tryz.isAgg0, z0 := Tryz.sizeOf0, v0 := Tryz.zeroValue0
  t3 := Tryz.underlying3, a3 := Tryz.isAgg3, z3 := Tryz.sizeOf3, v3 := Tryz.zeroValue3
  t4 := Tryz.underlying4, a4 := Tryz.isAgg4, z4 := Tryz.sizeOf4, v4 := Tryz.zeroValue4
  t5 := Tryz.underlying5, a5 := Tryz.isAgg5, z5 := Tryz.sizeOf5, v5 := Tryz.zeroValue5
  t9 := Tryz.underlying9, a9 := Tryz.isAgg9, z9 := Tryz.sizeOf9, v9 := Tryz.zeroValue9
  t20 := Tryz.underlying20, a20 := Tryz.isAgg20, z20 := Tryz.sizeOf20, v20 := Tryz.zeroValue20
  t21 := Tryz.underlying21, a21 := Tryz.isAgg21, z21 := Tryz.sizeOf21, v21 := Tryz.zeroValue21
  t37 := Tryz.underlying103, a37 := Tryz.isAgg103, z37 := Tryz.sizeOf103, v37 := Tryz.zeroValue103
  t46 := Tryz.underlying163, a46 := Tryz.isAgg163, z46 := Tryz.sizeOf163, v46 := Tryz.zeroValue163
  t51 := Tryz.underlying155, a51 := Tryz.isAgg155, z51 := Tryz.sizeOf155, v51 := Tryz.zeroValue155
  t70 := Tryz.underlying102, a70 := Tryz.isAgg102, z70 := Tryz.sizeOf102, v70 := Tryz.zeroValue102
  t72 := Tryz.underlying105, a72 := Tryz.isAgg105, z72 := Tryz.sizeOf105, v72 := Tryz.zeroValue105
  t75 := Tryz.underlying107, a75 := Tryz.isAgg107, z75 := Tryz.sizeOf107, v75 := Tryz.zeroValue107
  t164 := Tryz.underlying153, a164 := Tryz.isAgg153, z164 := Tryz.sizeOf153, v164 := Tryz.zeroValue153 }
theorem Tryz.extraR : Builder.Extra Tryz.prog Tryz.renR := {
  sizeBuilder := by kernel_rfl
  liesBuilder := by kernel_rfl
  t5 := Tryz.underlying5
  a5 := Tryz.isAgg5
  z5 := Tryz.sizeOf5
  v5 := Tryz.zeroValue5
  infoByte := by kernel_rfl
  cellsByte := by kernel_rfl
  sizeByte := by kernel_rfl
  neB5 := by decide }

/-- b.WriteRune(r) -/
theorem writeRune_any (B b : Nat) (l : List UInt8) (r : Int) (w : World) (hr0 : -2147483648 ≤ r) (hr1 : r ≤ 2147483647) (h : Bld B b l w) (hlen : l.length + 4 ≤ 140737488355328) (hBw : B ≤ w.heap.size) :
    Calls Tryz.prog 61 #[.pointer (some ⟨b, 0, none⟩), .int .i32 r] w fun e w' => (∃ n : Int, e = .returned (.tuple #[.int .i64 n, .nilIface])) ∧
      Bld B b (l ++ Lib.encodeRune r) w' ∧ Below B w w' ∧ Lib.OthersKept 5 (some b) w w' := by
  refine (Any.Builder_WriteRune_k Tryz.lays168 Tryz.extraR B b (Lib.byteCells l) r hr0 hr1 w h (by rw [Lib.byteCells_length]; exact hlen) hBw).mono ?_
  rintro e w' ⟨he, h1, h2, h3⟩
  refine ⟨⟨_, he⟩, Or.inr ?_, h2, h3⟩
  rw [Lib.byteCells_append, Lib.byteCells_encodeRune]
  exact h1
end Go.Proofs.YteeoohnkfdffnaaGreatDoor
