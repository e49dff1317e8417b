/-
  bowdlerbook.name: the marks.
-/
import Derived.Test.YtfjapjoomnallaaGreatDoorBookNil
import Derived.Test.YtfjapjoomnallaaGreatDoorLine
namespace Go.Proofs.YtfjapjoomnallaaGreatDoor
open Go.RowKit
set_option linter.unusedVariables false

def nameL (i k : Nat) : List UInt8 := [109, UInt8.ofNat (65 + i % 26), UInt8.ofNat (65 + i / 26 % 26), UInt8.ofNat (48 + k % 10), UInt8.ofNat (48 + k / 10 % 10), UInt8.ofNat (48 + k / 100 % 10)]
def nameT (i k : Nat) : ByteArray := S (nameL i k)
theorem u8_of {n : Nat} (h : n < 256) : (((UInt8.ofNat n).toNat : Nat) : Int) = (n : Int) := by
  rw [UInt8.toNat_ofNat']
  omega
set_option maxRecDepth 100000 in
theorem name_conv (i k : Nat) (w : World) :
    (convert 48 9 (.slice (some ⟨w.heap.size, 0, none⟩) 6 6)).run Tryz.prog (w.alloc (.cells #[.int .u8 109, .int .u8 (65 + (i : Int) % 26), .int .u8 (65 + (i : Int) / 26 % 26), .int .u8 (48 + (k : Int) % 10), .int .u8 (48 + (k : Int) / 10 % 10), .int .u8 (48 + (k : Int) / 100 % 10)] 5)) =
      .ok (.string (nameT i k)) (w.alloc (.cells #[.int .u8 109, .int .u8 (65 + (i : Int) % 26), .int .u8 (65 + (i : Int) / 26 % 26), .int .u8 (48 + (k : Int) % 10), .int .u8 (48 + (k : Int) / 10 % 10), .int .u8 (48 + (k : Int) / 100 % 10)] 5)) := by
  have h := fun hc => run_convert_bytes_back (P := Tryz.prog) (w.alloc (.cells #[.int .u8 109, .int .u8 (65 + (i : Int) % 26), .int .u8 (65 + (i : Int) / 26 % 26), .int .u8 (48 + (k : Int) % 10), .int .u8 (48 + (k : Int) / 10 % 10), .int .u8 (48 + (k : Int) / 100 % 10)] 5)) 48 9 5 ⟨w.heap.size, 0, none⟩ 6 (nameL i k) Tryz.underlying48 Tryz.underlying5 Tryz.underlying9 hc
  refine h (fun j hj => ?_)
  have h6 : (nameL i k).length = 6 := rfl
  rw [h6] at hj
  have hadd : (⟨w.heap.size, 0, none⟩ : Addr).add j = ⟨w.heap.size, j, none⟩ := by unfold Addr.add; split <;> simp_all
  rw [hadd, (Blk.new w 5 _).cell j]
  have f1 : (((UInt8.ofNat (65 + i % 26)).toNat : Nat) : Int) = 65 + (i : Int) % 26 := by rw [u8_of (by omega)]; omega
  have f2 : (((UInt8.ofNat (65 + i / 26 % 26)).toNat : Nat) : Int) = 65 + (i : Int) / 26 % 26 := by rw [u8_of (by omega)]; omega
  have f3 : (((UInt8.ofNat (48 + k % 10)).toNat : Nat) : Int) = 48 + (k : Int) % 10 := by rw [u8_of (by omega)]; omega
  have f4 : (((UInt8.ofNat (48 + k / 10 % 10)).toNat : Nat) : Int) = 48 + (k : Int) / 10 % 10 := by rw [u8_of (by omega)]; omega
  have f5 : (((UInt8.ofNat (48 + k / 100 % 10)).toNat : Nat) : Int) = 48 + (k : Int) / 100 % 10 := by rw [u8_of (by omega)]; omega
  have : j = 0 ∨ j = 1 ∨ j = 2 ∨ j = 3 ∨ j = 4 ∨ j = 5 := by omega
  rcases this with rfl | rfl | rfl | rfl | rfl | rfl
  · rfl
  · show some (Value.int .u8 (65 + (i : Int) % 26)) = some (.int .u8 (((UInt8.ofNat (65 + i % 26)).toNat : Nat) : Int)); rw [f1]
  · show some (Value.int .u8 (65 + (i : Int) / 26 % 26)) = some (.int .u8 (((UInt8.ofNat (65 + i / 26 % 26)).toNat : Nat) : Int)); rw [f2]
  · show some (Value.int .u8 (48 + (k : Int) % 10)) = some (.int .u8 (((UInt8.ofNat (48 + k % 10)).toNat : Nat) : Int)); rw [f3]
  · show some (Value.int .u8 (48 + (k : Int) / 10 % 10)) = some (.int .u8 (((UInt8.ofNat (48 + k / 10 % 10)).toNat : Nat) : Int)); rw [f4]
  · show some (Value.int .u8 (48 + (k : Int) / 100 % 10)) = some (.int .u8 (((UInt8.ofNat (48 + k / 100 % 10)).toNat : Nat) : Int)); rw [f5]
set_option maxHeartbeats 1000000 in
set_option maxRecDepth 100000 in
theorem name_any (i k : Nat) (w : World) (hi : i ≤ 1000) (hk : k ≤ 1000000) : Calls Tryz.prog 103 #[.int .i64 (i : Int), .int .i64 (k : Int)] w fun e w' => e = .returned (.string (nameT i k)) ∧ Below w.heap.size w w' := by
  have hcv := name_conv i k w
  go_enter Tryz.func103, Tryz.ntmps103
  go_wp2_with fail
  go_ret
  exact ⟨rfl, (Below.refl _ _).alloc (Nat.le_refl _) _⟩
def marksT (i frm n : Nat) : List ByteArray := (List.range n).map fun j => nameT i (frm + j)
theorem marksT_len (i frm n : Nat) : (marksT i frm n).length = n := by simp [marksT]
theorem marksT_step (i frm n : Nat) : marksT i frm (n + 1) = marksT i frm n ++ [nameT i (frm + n)] := by simp [marksT, List.range_succ]
theorem marksT_app (i n m : Nat) : marksT i 0 n ++ marksT i n m = marksT i 0 (n + m) := by
  induction m with
  | zero => simp [marksT]
  | succ m ih => rw [marksT_step, ← List.append_assoc, ih, ← Nat.add_assoc, marksT_step]; simp
set_option maxHeartbeats 1000000 in
set_option maxRecDepth 100000 in
theorem markTexts_any (i frm n : Nat) (w : World) (hi : i ≤ 1000) (hn : frm + n ≤ 1000000) : Calls Tryz.prog 83 #[.int .i64 (i : Int), .int .i64 (frm : Int), .int .i64 (n : Int)] w fun e w' => ∃ A c, e = .returned (.slice A n c) ∧ Own w' w.heap.size 9 1 A n c (txCells (marksT i frm n)) ∧ Below w.heap.size w w' := by
  go_enter Tryz.func83, Tryz.ntmps83
  go_wp2_with fail
  go_loopw [7, 8] (fun s7 s8 wr => ∃ (j : Nat) (A : Option Addr) (c : Nat), j ≤ n ∧ s8 = .int .i64 ((frm + j : Nat) : Int) ∧ s7 = .slice A j c ∧ Own wr w.heap.size 9 1 A j c (txCells (marksT i frm j)) ∧ Below w.heap.size w wr)
    (fun _ s8 _ => frm + n - (intOf s8).toNat)
  case atStart => exact ⟨0, none, 0, Nat.zero_le _, rfl, rfl, Own.nil _ _ _ _, Below.refl _ _⟩
  case round =>
    obtain ⟨j, A, c, hj, rfl, rfl, hO, hb⟩ := hrel
    have hz := hb.size
    by_cases hlt : j < n
    · have y1 : ((frm + j : Nat) : Int) < (frm : Int) + (n : Int) := by omega
      go_wp2_with (first
        | (go_at_call 103; refine (name_any i (frm + j) wr hi (by omega)).mono ?_; rintro e w1 ⟨rfl, b1⟩
           have hO1 := hO.below b1 (Nat.le_refl _)
           have hb1 := hb.trans (b1.mono hz)
           have hz1 := hb1.size)
        | (at_builtin; refine wpList_app1 Tryz.elTexts rfl (.tmp 17) (.tmp 21) rfl rfl (by exact hO1.alloc _) rfl (Blk.new' _ _ _ _ (by simp)) rfl (by simp [Value.oneCell']) (by simp only [maxLen]; omega) (by omega) (by simp; omega) ?_
           intro A2 c2 w2 hO2 ho2 hm2))
      go_roundw
      case rel =>
        refine ⟨j + 1, A2, c2, by omega, by go_num, rfl, ?_, hb1.trans (ho2.of_alloc.below (fun a ha => (hO1.lt ha).1) hz1)⟩
        rw [marksT_step]
        simpa [txCells] using hO2
      case measure => simp [intOf]; omega
    · have hjn : j = n := by omega
      subst hjn
      have y1 : ¬ ((frm + j : Nat) : Int) < (frm : Int) + (j : Int) := by omega
      go_wp2_with fail
      go_ret
      exact ⟨A, c, rfl, hO, hb⟩
end Go.Proofs.YtfjapjoomnallaaGreatDoor
