/-
  (*strings.Builder).WriteRune: the library's contract, laid by hand (the one command passes over it at this dump).
-/
import Derived.Test.YtofloedgclodnaaDoorBuild
import Derived.Shelf.Strings.BuilderRune
namespace Go.Proofs.YtofloedgclodnaaDoor
open Go.Shelf Go.RowKit
def Tryd.renRf (n : Nat) : Nat := if n = 168 then 59 else if n = 240 then 75 else if n = 242 then 81 else if n = 276 then 90 else if n = 278 then 95 else n
def Tryd.renRt (n : Nat) : Nat := match n with
  | 0 => 0
  | 3 => 3
  | 4 => 4
  | 5 => 5
  | 9 => 9
  | 20 => 20
  | 21 => 21
  | 37 => 37
  | 46 => 120
  | 51 => 112
  | 70 => 77
  | 72 => 79
  | 75 => 81
  | 80 => 84
  | 164 => 116
  | n => n
def Tryd.renR : Go.Shelf.Ren := ⟨Tryd.renRf, Tryd.renRt, fun n => n⟩
theorem Tryd.lays168 : Go.Proofs.Lays.n168 Tryd.prog Tryd.renR := {
  mixed := by kernel_rfl
  f168 := Tryd.func59.trans (congrArg some (by kernel_rfl))
  f240 := Tryd.func75.trans (congrArg some (by kernel_rfl))
  f242 := Tryd.func81.trans (congrArg some (by kernel_rfl))
  f276 := Tryd.func90.trans (congrArg some (by kernel_rfl))
  f278 := Tryd.func95.trans (congrArg some (by kernel_rfl))
  t0 := Tryd.underlying0, a0 := Tryd.isAgg0, z0 := Tryd.sizeOf0, v0 := Tryd.zeroValue0
  t3 := Tryd.underlying3, a3 := Tryd.isAgg3, z3 := Tryd.sizeOf3, v3 := Tryd.zeroValue3
  t4 := Tryd.underlying4, a4 := Tryd.isAgg4, z4 := Tryd.sizeOf4, v4 := Tryd.zeroValue4
  t5 := Tryd.underlying5, a5 := Tryd.isAgg5, z5 := Tryd.sizeOf5, v5 := Tryd.zeroValue5
  t9 := Tryd.underlying9, a9 := Tryd.isAgg9, z9 := Tryd.sizeOf9, v9 := Tryd.zeroValue9
  t20 := Tryd.underlying20, a20 := Tryd.isAgg20, z20 := Tryd.sizeOf20, v20 := Tryd.zeroValue20
  t21 := Tryd.underlying21, a21 := Tryd.isAgg21, z21 := Tryd.sizeOf21, v21 := Tryd.zeroValue21
  t37 := Tryd.underlying37, a37 := Tryd.isAgg37, z37 := Tryd.sizeOf37, v37 := Tryd.zeroValue37
  t46 := Tryd.underlying120, a46 := Tryd.isAgg120, z46 := Tryd.sizeOf120, v46 := Tryd.zeroValue120
  t51 := Tryd.underlying112, a51 := Tryd.isAgg112, z51 := Tryd.sizeOf112, v51 := Tryd.zeroValue112
  t70 := Tryd.underlying77, a70 := Tryd.isAgg77, z70 := Tryd.sizeOf77, v70 := Tryd.zeroValue77
  t72 := Tryd.underlying79, a72 := Tryd.isAgg79, z72 := Tryd.sizeOf79, v72 := Tryd.zeroValue79
  t75 := Tryd.underlying81, a75 := Tryd.isAgg81, z75 := Tryd.sizeOf81, v75 := Tryd.zeroValue81
  t164 := Tryd.underlying116, a164 := Tryd.isAgg116, z164 := Tryd.sizeOf116, v164 := Tryd.zeroValue116 }
theorem Tryd.extraR : Builder.Extra Tryd.prog Tryd.renR := {
  sizeBuilder := by kernel_rfl
  liesBuilder := by kernel_rfl
  t5 := Tryd.underlying5
  a5 := Tryd.isAgg5
  z5 := Tryd.sizeOf5
  v5 := Tryd.zeroValue5
  infoByte := by kernel_rfl
  cellsByte := by kernel_rfl
  sizeByte := by kernel_rfl
  neB5 := by decide }

/-- b.WriteRune(r) -/
theorem writeRune_any (B b : Nat) (l : List UInt8) (r : Int) (w : World) (hr0 : -2147483648 ≤ r) (hr1 : r ≤ 2147483647) (h : Bld B b l w) (hlen : l.length + 4 ≤ 140737488355328) (hBw : B ≤ w.heap.size) :
    Calls Tryd.prog 59 #[.pointer (some ⟨b, 0, none⟩), .int .i32 r] w fun e w' => (∃ n : Int, e = .returned (.tuple #[.int .i64 n, .nilIface])) ∧
      Bld B b (l ++ Lib.encodeRune r) w' ∧ Below B w w' ∧ Lib.OthersKept 5 (some b) w w' := by
  refine (Any.Builder_WriteRune_k Tryd.lays168 Tryd.extraR B b (Lib.byteCells l) r hr0 hr1 w h (by rw [Lib.byteCells_length]; exact hlen) hBw).mono ?_
  rintro e w' ⟨he, h1, h2, h3⟩
  refine ⟨⟨_, he⟩, Or.inr ?_, h2, h3⟩
  rw [Lib.byteCells_append, Lib.byteCells_encodeRune]
  exact h1
end Go.Proofs.YtofloedgclodnaaDoor
