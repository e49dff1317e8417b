/-
  line: the contracts of Expand, Indent and Strip.
-/
import Derived.Test.YtfjapjoomnallaaGreatDoorLineB
import Derived.Shelf.Strings.Trim
namespace Go.Proofs.YtfjapjoomnallaaGreatDoor
open Go.RowKit

theorem repeat32 (n : Nat) (w : World) (hn : n ≤ 1099511627776) : Calls Tryz.prog 28 #[.string ⟨#[32]⟩, .int .i64 (n : Int)] w fun e w' => e = .returned (.string (S (List.replicate n 32))) ∧ Below w.heap.size w w' := by
  refine (repeat_any ⟨#[32]⟩ (n : Int) w (by omega) (by show 1 * (n : Int).toNat ≤ _; omega) (by omega)).mono ?_
  rintro e w1 ⟨rfl, b1⟩
  rw [show L ⟨#[32]⟩ = [32] from rfl, repeatL_one, Int.toNat_natCast]
  exact ⟨rfl, b1⟩
set_option maxHeartbeats 1000000 in
set_option maxRecDepth 100000 in
theorem expand_any (s : ByteArray) (w : World) (hs : s.size ≤ 1048576) :
    Calls Tryz.prog 15 #[.string s] w fun e w' => e = .returned (.string (S (expandT (L s)))) ∧ Below w.heap.size w w' := by
  go_enter Tryz.func15, Tryz.ntmps15
  go_wp2_with fail
  go_loopw [3] (fun s3 wr => ∃ pos col : Nat, s3 = .int .i64 col ∧ pos ≤ s.size ∧ col ≤ 4 * pos ∧ colT 0 (L s) = colT col ((L s).drop pos) ∧ restT (L s) = restT ((L s).drop pos) ∧ wr.heap[w.heap.size]? = some (.stringIter s pos) ∧ Below w.heap.size w wr)
    (fun _ wr => s.size - wr.iterPos w.heap.size)
  case atStart =>
    refine ⟨0, 0, rfl, by omega, by omega, rfl, rfl, ?_, (Below.refl _ w).alloc (Nat.le_refl _) _⟩
    exact World.iter_heap w s 0
  case round =>
    obtain ⟨pos, col, rfl, hps, hcol, hC, hR, hit, hbw⟩ := hrel
    have hsz : w.heap.size < wr.heap.size := (Array.getElem?_eq_some_iff.1 hit).1
    by_cases hp : pos < s.size
    · have hnx : ∀ ty, (Instr.next (.pointer (some ⟨w.heap.size, 0, none⟩)) true ty).run Tryz.prog wr = _ := fun ty => Lib.run_next_any_at wr w.heap.size s pos ty hit hp
      obtain ⟨⟨dlo, dhi⟩, dw, dle, dmid⟩ := decode_span s pos hp
      have hpl : pos < (L s).length := by simpa using hp
      have hdr : (L s).drop pos = (L s)[pos] :: (L s).drop (pos + 1) := List.drop_eq_getElem_cons hpl
      generalize (L s)[pos] = b at *
      have hit2 := Lib.iterAt_heap wr w.heap.size s pos (pos + (Utf8.decode s pos).2) hit
      have hbw2 := Lib.below_iterAt hbw (k := w.heap.size) (by omega) s (pos + (Utf8.decode s pos).2)
      have hsz2 : w.heap.size ≤ (wr.iterAt w.heap.size s (pos + (Utf8.decode s pos).2)).heap.size := by rw [Lib.iterAt_size]; omega
      by_cases h32 : b = 32
      · have hd := dlo (by rw [h32]; decide)
        rw [h32] at hd
        rw [hd] at hnx hit2 hbw2
        have HC : Hid (colT 0 (L s) = colT (col + 1) ((L s).drop (pos + 1))) := Lib.hid (by rw [hC, hdr, colT, if_pos h32])
        have HR : Hid (restT (L s) = restT ((L s).drop (pos + 1))) := Lib.hid (by rw [hR, hdr]; unfold restT; rw [List.dropWhile_cons, if_pos (by simp [h32])])
        have Hit := Lib.hid hit
        clear hd dlo dhi dmid hdr hC hR h32 hit hbw
        go_wp2_with fail
        go_roundw
        case rel => exact ⟨pos + 1, col + 1, by go_num, by omega, by omega, HC.out, HR.out, hit2, hbw2⟩
        case measure => simp only [World.iterPos, hit2, Hit.out]; omega
      · by_cases h9 : b = 9
        · have hd := dlo (by rw [h9]; decide)
          rw [h9] at hd
          rw [hd] at hnx hit2 hbw2
          have HC : Hid (colT 0 (L s) = colT (col + (4 - col % 4)) ((L s).drop (pos + 1))) := Lib.hid (by rw [hC, hdr, colT, if_neg h32, if_pos h9])
          have HR : Hid (restT (L s) = restT ((L s).drop (pos + 1))) := Lib.hid (by rw [hR, hdr]; unfold restT; rw [List.dropWhile_cons, if_pos (by simp [h9])])
          have Hit := Lib.hid hit
          clear hd dlo dhi dmid hdr hC hR h32 h9 hit hbw
          go_wp2_with fail
          go_roundw
          case rel => exact ⟨pos + 1, col + (4 - col % 4), congrArg (Value.int .i64) (by omega), by omega, by omega, HC.out, HR.out, hit2, hbw2⟩
          case measure => simp only [World.iterPos, hit2, Hit.out]; omega
        · have hno : NoBlank ((L s).drop pos) := by
            intro x hx
            rw [hdr] at hx
            simp at hx
            subst hx
            exact ⟨h32, h9⟩
          have hfin : expandT (L s) = List.replicate col 32 ++ (L s).drop pos := by
            unfold expandT
            rw [hC, hR, colT_no hno, restT_of_no hno]
          have HF := Lib.hid hfin
          have hr : ∀ n : Nat, (n = 32 ∨ n = 9) → (((Utf8.decode s pos).1 : Int) == n) = false := by
            intro n hn
            refine beq_eq_false_iff_ne.2 (fun e => ?_)
            have e : (Utf8.decode s pos).1 = n := by omega
            by_cases hlo : b.toNat < 128
            · rw [dlo hlo] at e
              simp only at e
              rcases hn with rfl | rfl
              · exact h32 (UInt8.toNat_inj.1 (by simpa using e))
              · exact h9 (UInt8.toNat_inj.1 (by simpa using e))
            · have := dhi (by omega); omega
          have r1 := hr 32 (by omega)
          have r2 := hr 9 (by omega)
          clear dlo dhi dmid hdr hC hR h32 h9 hno hfin hr
          have Hit := Lib.hid hit
          clear hit
          go_wp2_with fail
          have hsum : ¬ 9223372036854775807 < (S (List.replicate col 32)).size + (s.extract pos s.size).size := by simp; omega
          have hsum2 : ¬ 9223372036854775807 < (S (List.replicate col 32)).size + (s.size - pos) := by simp; omega
          go_region_with (go_at_call 28; refine (repeat32 col _ (by omega)).mono ?_; rintro e W1 ⟨rfl, b1⟩)
          all_goals go_wp2_with fail
          all_goals go_ret
          all_goals
            refine ⟨?_, hbw2.drew.trans (b1.mono hsz2)⟩
            rw [HF.out]
            have e1 : S (List.replicate col 32) ++ s.extract pos s.size = S (List.replicate col 32 ++ (L s).drop pos) := by
              rw [S_append, L_extract, List.take_of_length_le (by simp)]
            exact congrArg (fun x => Ending.returned (Value.string x)) e1
    · have hnx : ∀ ty, (Instr.next (.pointer (some ⟨w.heap.size, 0, none⟩)) true ty).run Tryz.prog wr = _ := fun ty => Lib.run_next_end_at wr w.heap.size s pos ty hit hp
      have hfin : expandT (L s) = List.replicate col 32 := by
        have hz : (L s).drop pos = [] := List.drop_eq_nil_of_le (by simp; omega)
        unfold expandT
        rw [hC, hR, hz]
        simp [colT, restT]
      have HF := Lib.hid hfin
      have Hit := Lib.hid hit
      clear hfin hit hC hR
      go_wp2_with fail
      refine (repeat32 col _ (by omega)).mono ?_
      rintro e W1 ⟨rfl, b1⟩
      go_wp2_with fail
      go_ret
      rw [HF.out]
      exact ⟨rfl, hbw.trans (b1.mono (by omega))⟩

theorem trimLeft_any (s : ByteArray) (w : World) : Calls Tryz.prog 29 #[.string s, .string ⟨#[32]⟩] w fun e w' => e = .returned (.string (S (Lib.trimLeftB (L s) 32))) ∧ w = w' :=
  (Tryz.strings_TrimLeft_one s 32 (by decide) w).mono fun _ _ ⟨h, h'⟩ => ⟨h, h'.symm⟩

set_option maxRecDepth 100000 in
theorem indent_any (s : ByteArray) (w : World) (hs : s.size ≤ 1048576) :
    Calls Tryz.prog 17 #[.string s] w fun e w' => e = .returned (.int .i64 (colT 0 (L s) : Int)) ∧ Below w.heap.size w w' := by
  have he : (S (expandT (L s))).size = colT 0 (L s) + (restT (L s)).length := by simp [expandT]
  have hle := expandT_le (L s)
  have htr : Lib.trimLeftB (L (S (expandT (L s)))) 32 = restT (L s) := by rw [L_S, trimLeft_expand]
  have hsz : (S (expandT (L s))).size ≤ 5 * 1048576 := by rw [size_S]; rw [length_L] at hle; omega
  go_enter Tryz.func17, Tryz.ntmps17
  go_wp2_with fail
  refine (expand_any s _ hs).mono ?_
  rintro e w1 ⟨rfl, b1⟩
  generalize S (expandT (L s)) = x at *
  have HE := Lib.hid he
  have HT := Lib.hid htr
  clear he htr hle
  go_wp2_with fail
  refine (trimLeft_any x _).mono ?_
  rintro e w2 ⟨rfl, rfl⟩
  rw [HT.out]
  have hr : (S (restT (L s))).size = (restT (L s)).length := by simp
  have hr2 : (S (restT (L s))).size ≤ x.size := by rw [hr, HE.out]; omega
  have HR := Lib.hid hr
  clear hr
  generalize S (restT (L s)) = y at *
  go_wp2_with fail
  go_ret
  refine ⟨?_, b1⟩
  have := HE.out
  have := HR.out
  exact congrArg (fun z => Ending.returned (Value.int .i64 z)) (by omega)

set_option maxRecDepth 100000 in
theorem strip_any (s : ByteArray) (n : Int) (w : World) (hs : s.size ≤ 1048576) (hn : -9223372036854775808 ≤ n ∧ n ≤ 9223372036854775807) :
    Calls Tryz.prog 19 #[.string s, .int .i64 n] w fun e w' => e = .returned (.string (S (stripT (L s) n))) ∧ Below w.heap.size w w' := by
  have he : (S (expandT (L s))).size = colT 0 (L s) + (restT (L s)).length := by simp [expandT]
  have hle := expandT_le (L s)
  have hsz : (S (expandT (L s))).size ≤ 5 * 1048576 := by rw [size_S]; rw [length_L] at hle; omega
  have hfin : (S (expandT (L s))).extract (min (max n 0) (colT 0 (L s) : Int)).toNat (S (expandT (L s))).size = S (stripT (L s) n) := by
    apply L_inj
    rw [L_extract, List.take_of_length_le (by simp), L_S, L_S, stripT]
    congr 1
    omega
  have hcs : colT 0 (L s) ≤ (S (expandT (L s))).size := by rw [he]; omega
  obtain ⟨hn1, hn2⟩ := hn
  go_enter Tryz.func19, Tryz.ntmps19
  go_wp2_with fail
  refine (expand_any s _ hs).mono ?_
  rintro e w1 ⟨rfl, b1⟩
  generalize S (expandT (L s)) = x at *
  have HF := Lib.hid hfin
  clear he hle hfin
  go_wp2_with fail
  refine (indent_any s _ hs).mono ?_
  rintro e w2 ⟨rfl, b2⟩
  generalize colT 0 (L s) = k at *
  go_wp2_with fail
  go_ret
  rw [HF.out]
  exact ⟨rfl, b1.trans (b2.mono b1.size)⟩
end Go.Proofs.YtfjapjoomnallaaGreatDoor
