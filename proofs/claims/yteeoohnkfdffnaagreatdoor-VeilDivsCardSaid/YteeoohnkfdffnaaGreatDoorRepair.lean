/-
  repair.Text: its contract.
-/
import Derived.Test.YteeoohnkfdffnaaGreatDoorWriteRune
namespace Go.Proofs.YteeoohnkfdffnaaGreatDoor
open Go.RowKit

/-- what stands for the rune at pos -/
def runeP (s : ByteArray) (pos : Nat) : List UInt8 :=
  if (Utf8.decode s pos).1 = 0 ∨ (Utf8.decode s pos).1 = 65533 then [239, 191, 189]
  else if (Utf8.decode s pos).1 = 13 then [10]
  else if (Utf8.decode s pos).1 = 10 ∧ 0 < pos ∧ (L s)[pos - 1]? = some 13 then []
  else Lib.encodeRune (Utf8.decode s pos).1
def textF (s : ByteArray) : Nat → Nat → List UInt8
  | 0, _ => []
  | f + 1, pos => if pos < s.size then runeP s pos ++ textF s f (pos + (Utf8.decode s pos).2) else []
def repT (s : ByteArray) : List UInt8 := textF s s.size 0

theorem encodeRune_le (r : Int) : (Lib.encodeRune r).length ≤ 4 := by rw [← Lib.runeCells_length]; exact (Lib.runeCells_le r).2
theorem runeP_le (s : ByteArray) (pos : Nat) : (runeP s pos).length ≤ 4 := by
  unfold runeP
  split
  · simp
  split
  · simp
  split
  · simp
  · exact encodeRune_le _
theorem textF_le (s : ByteArray) : ∀ f pos, (textF s f pos).length ≤ 4 * f
  | 0, _ => by simp [textF]
  | f + 1, pos => by
    rw [textF]
    split
    · have := textF_le s f (pos + (Utf8.decode s pos).2)
      have := runeP_le s pos
      rw [List.length_append]; omega
    · simp
theorem repT_le (s : ByteArray) : (repT s).length ≤ 4 * s.size := textF_le s _ _
theorem decode_le (s : ByteArray) (pos : Nat) : (Utf8.decode s pos).1 ≤ 1114111 := by
  rw [Lib.decode_at]
  exact Lib.decodeN_rune_le _ _ _ _ _ (UInt8.toNat_lt _)

theorem byte_ne' {x : UInt8} (h : ¬ x = 13) : ((x.toNat : Int) == 13) = false := by
  refine beq_eq_false_iff_ne.2 fun e => h (UInt8.toNat_inj.1 ?_)
  have : x.toNat = 13 := by omega
  rw [this]; rfl

set_option maxHeartbeats 1000000 in
set_option maxRecDepth 100000 in
theorem repair_any (s : ByteArray) (w : World) (hs : s.size ≤ 1099511627776) :
    Calls Tryz.prog 26 #[.string s] w fun e w' => e = .returned (.string (S (repT s))) ∧ Below w.heap.size w w' := by
  go_enter Tryz.func26, Tryz.ntmps26
  go_wp2_with fail
  go_loopw [4] (fun _ wr => ∃ (pos f : Nat) (acc : List UInt8), pos ≤ s.size ∧ s.size ≤ f + pos ∧ repT s = acc ++ textF s f pos ∧ acc.length ≤ 4 * pos ∧ Bld w.heap.size w.heap.size acc wr ∧ wr.heap[w.heap.size + 1]? = some (.stringIter s pos) ∧ Below w.heap.size w wr)
    (fun _ wr => s.size - wr.iterPos (w.heap.size + 1))
  case atStart =>
    refine ⟨0, s.size, [], by omega, by omega, rfl, by simp, (Bld.new w).alloc _, ?_, ((Below.refl _ w).alloc (Nat.le_refl _) _).alloc (by simp) _⟩
    have := World.iter_heap (w.alloc (.cells #[.pointer none, .slice none 0 0] 105)) s 0
    simpa using this
  case round =>
    obtain ⟨pos, f, acc, hps, hf, hE, hal, hI, hit, hbw⟩ := hrel
    have hsz : w.heap.size + 1 < wr.heap.size := (Array.getElem?_eq_some_iff.1 hit).1
    by_cases hp : pos < s.size
    · obtain ⟨f, rfl⟩ : ∃ f', f = f' + 1 := ⟨f - 1, by omega⟩
      rw [textF, if_pos hp] at hE
      have hnx : ∀ ty, (Instr.next (.pointer (some ⟨w.heap.size + 1, 0, none⟩)) true ty).run Tryz.prog wr = _ := fun ty => Lib.run_next_any_at wr (w.heap.size + 1) s pos ty hit hp
      obtain ⟨_, dw, dle, _⟩ := decode_span s pos hp
      have hrl := decode_le s pos
      have hI2 := hI.iterAt hit (pos + (Utf8.decode s pos).2)
      have hit2 := Lib.iterAt_heap wr (w.heap.size + 1) s pos (pos + (Utf8.decode s pos).2) hit
      have hbw2 := Lib.below_iterAt hbw (k := w.heap.size + 1) (by omega) s (pos + (Utf8.decode s pos).2)
      have hsz2 : w.heap.size ≤ (wr.iterAt (w.heap.size + 1) s (pos + (Utf8.decode s pos).2)).heap.size := by rw [Lib.iterAt_size]; omega
      have hrp : runeP s pos = runeP s pos := rfl
      conv at hrp => rhs; unfold runeP
      have hpl := runeP_le s pos
      generalize Utf8.decode s pos = D at *
      obtain ⟨r, d⟩ := D
      simp only at *
      generalize runeP s pos = piece at *
      have HE := Lib.hid hE
      have Hit := Lib.hid hit
      clear hE hI hbw hit
      by_cases c0 : r = 0 ∨ r = 65533
      · rw [if_pos c0] at hrp
        have HP := Lib.hid hrp
        clear hrp
        rcases c0 with rfl | rfl
        all_goals
          go_wp2_with fail
          refine (writeString_any w.heap.size w.heap.size acc _ _ hI2 (by rw [show (⟨#[239, 191, 189]⟩ : ByteArray).size = 3 from rfl]; omega) hsz2).mono ?_
          rintro e W1 ⟨rfl, h1, b1, k1⟩
          go_wp2_with fail
          go_roundw
          case rel =>
            refine ⟨pos + d, f, _, by omega, by omega, ?_, ?_, h1, k1.iter hit2 (by omega), hbw2.trans b1⟩
            · rw [HE.out, HP.out, List.append_assoc]; rfl
            · rw [List.length_append, show (L ⟨#[239, 191, 189]⟩).length = 3 from rfl]; omega
          case measure =>
            simp only [World.iterPos, k1.iter hit2 (by omega), Hit.out]
            omega
      · rw [if_neg c0] at hrp
        have q1 : ((r : Int) == 0) = false := beq_eq_false_iff_ne.2 (by omega)
        have q2 : ((r : Int) == 65533) = false := beq_eq_false_iff_ne.2 (by omega)
        clear c0
        by_cases c13 : r = 13
        · rw [if_pos c13] at hrp
          have HP := Lib.hid hrp
          clear hrp
          subst c13
          go_wp2_with fail
          refine (writeByte_any w.heap.size w.heap.size acc 10 _ hI2 (by omega) hsz2).mono ?_
          rintro e W1 ⟨rfl, h1, b1, k1⟩
          go_wp2_with fail
          go_roundw
          case rel =>
            refine ⟨pos + d, f, _, by omega, by omega, ?_, ?_, h1, k1.iter hit2 (by omega), hbw2.trans b1⟩
            · rw [HE.out, HP.out, List.append_assoc]
            · rw [List.length_append, List.length_singleton]; omega
          case measure =>
            simp only [World.iterPos, k1.iter hit2 (by omega), Hit.out]
            omega
        · rw [if_neg c13] at hrp
          have q3 : ((r : Int) == 13) = false := beq_eq_false_iff_ne.2 (by omega)
          clear c13
          by_cases c10 : r = 10
          · subst c10
            by_cases hp0 : pos = 0
            · subst hp0
              rw [if_neg (by omega)] at hrp
              rw [Nat.zero_add] at hI2 hit2 hbw2 hsz2
              simp only [Nat.zero_add] at hnx
              have HP := Lib.hid hrp
              clear hrp
              go_wp2_with fail
              refine (writeRune_any w.heap.size w.heap.size acc _ _ (by omega) (by omega) hI2 (by omega) hsz2).mono ?_
              rintro e W1 ⟨⟨m, rfl⟩, h1, b1, k1⟩
              go_wp2_with fail
              go_roundw
              case rel =>
                refine ⟨d, f, _, by omega, by omega, ?_, ?_, h1, k1.iter hit2 (by omega), hbw2.trans b1⟩
                · rw [HE.out, HP.out, List.append_assoc, Nat.zero_add]; try rfl
                · rw [List.length_append]; have := encodeRune_le 10; omega
              case measure =>
                simp only [World.iterPos, k1.iter hit2 (by omega), Hit.out]
                omega
            · obtain ⟨p, rfl⟩ : ∃ p, pos = p + 1 := ⟨pos - 1, by omega⟩
              have hps2 : p < s.size := by omega
              have hgl : (L s)[p]? = some (s[p]'hps2) := by rw [List.getElem?_eq_getElem (by simpa using hps2), get_L]
              rw [Nat.add_sub_cancel, hgl] at hrp
              by_cases hb : s[p]'hps2 = 13
              · rw [if_pos ⟨rfl, by omega, by rw [hb]⟩] at hrp
                have HP := Lib.hid hrp
                clear hrp hgl
                go_wp2_with fail
                go_roundw
                case rel => exact ⟨p + 1 + d, f, acc, by omega, by omega, by rw [HE.out, HP.out]; rfl, by omega, hI2, hit2, hbw2⟩
                case measure =>
                  simp only [World.iterPos, hit2, Hit.out]
                  omega
              · rw [if_neg (fun h => hb (by simpa using h.2.2))] at hrp
                have q4 := byte_ne' hb
                have HP := Lib.hid hrp
                clear hrp hgl hb
                go_wp2_with fail
                refine (writeRune_any w.heap.size w.heap.size acc _ _ (by omega) (by omega) hI2 (by omega) hsz2).mono ?_
                rintro e W1 ⟨⟨m, rfl⟩, h1, b1, k1⟩
                go_wp2_with fail
                go_roundw
                case rel =>
                  refine ⟨p + 1 + d, f, _, by omega, by omega, ?_, ?_, h1, k1.iter hit2 (by omega), hbw2.trans b1⟩
                  · rw [HE.out, HP.out, List.append_assoc]; try rfl
                  · rw [List.length_append]; have := encodeRune_le 10; omega
                case measure =>
                  simp only [World.iterPos, k1.iter hit2 (by omega), Hit.out]
                  omega
          · rw [if_neg (fun h => c10 h.1)] at hrp
            have HP := Lib.hid hrp
            have q4 : ((r : Int) == 10) = false := beq_eq_false_iff_ne.2 (by omega)
            clear hrp c10
            go_wp2_with fail
            refine (writeRune_any w.heap.size w.heap.size acc _ _ (by omega) (by omega) hI2 (by omega) hsz2).mono ?_
            rintro e W1 ⟨⟨m, rfl⟩, h1, b1, k1⟩
            go_wp2_with fail
            go_roundw
            case rel =>
              refine ⟨pos + d, f, _, by omega, by omega, ?_, ?_, h1, k1.iter hit2 (by omega), hbw2.trans b1⟩
              · rw [HE.out, HP.out, List.append_assoc]; try rfl
              · rw [List.length_append]; have := encodeRune_le (r : Int); omega
            case measure =>
              simp only [World.iterPos, k1.iter hit2 (by omega), Hit.out]
              omega
    · have hnx : ∀ ty, (Instr.next (.pointer (some ⟨w.heap.size + 1, 0, none⟩)) true ty).run Tryz.prog wr = _ := fun ty => Lib.run_next_end_at wr (w.heap.size + 1) s pos ty hit hp
      have hfin : repT s = acc := by
        rw [hE]
        cases f with
        | zero => simp [textF]
        | succ f => rw [textF, if_neg hp, List.append_nil]
      have HF := Lib.hid hfin
      have Hit := Lib.hid hit
      clear hfin hit hE
      go_wp2_with fail
      refine (string_any w.heap.size w.heap.size acc _ hI (by omega)).mono ?_
      rintro e W1 ⟨rfl, h1, b1, k1⟩
      go_wp2_with fail
      go_ret
      rw [HF.out]
      exact ⟨rfl, hbw.trans b1⟩
end Go.Proofs.YteeoohnkfdffnaaGreatDoor
