/-
  escape.Text: its contract: each of the signs is written anew, noughts go, all else stays.
-/
import Derived.Test.YtfdfpimilmhhoaaChecked
import Derived.Test.YtfdfpimilmhhoaaBuild
namespace Go.Proofs.Ytfdfpimilmhhoaa
open Go.RowKit

def escB (b : UInt8) : List UInt8 :=
  if b = 38 then [38, 97, 109, 112, 59] else if b = 60 then [38, 108, 116, 59] else if b = 62 then [38, 103, 116, 59] else if b = 34 then [38, 113, 117, 111, 116, 59] else if b = 0 then [] else [b]
def esc (l : List UInt8) : List UInt8 := l.flatMap escB

theorem escB_id {b : UInt8} (h : b.toNat ≠ 38 ∧ b.toNat ≠ 60 ∧ b.toNat ≠ 62 ∧ b.toNat ≠ 34 ∧ b.toNat ≠ 0) : escB b = [b] := by
  have h1 : b ≠ 38 := fun e => h.1 (by rw [e]; rfl)
  have h2 : b ≠ 60 := fun e => h.2.1 (by rw [e]; rfl)
  have h3 : b ≠ 62 := fun e => h.2.2.1 (by rw [e]; rfl)
  have h4 : b ≠ 34 := fun e => h.2.2.2.1 (by rw [e]; rfl)
  have h5 : b ≠ 0 := fun e => h.2.2.2.2 (by rw [e]; rfl)
  simp [escB, h1, h2, h3, h4, h5]
theorem escB_high {b : UInt8} (h : 128 ≤ b.toNat) : escB b = [b] := escB_id (by omega)
theorem esc_append (a b : List UInt8) : esc (a ++ b) = esc a ++ esc b := by simp [esc]
theorem escB_le (b : UInt8) : (escB b).length ≤ 6 := by unfold escB; repeat' split
                                                        all_goals simp
theorem esc_le (l : List UInt8) : (esc l).length ≤ 6 * l.length := by
  induction l with
  | nil => simp [esc]
  | cons b l ih => have := escB_le b; simp only [esc, List.flatMap_cons, List.length_append, List.length_cons] at *; omega
theorem esc_high (l : List UInt8) (h : ∀ b ∈ l, 128 ≤ b.toNat) : esc l = l := by
  induction l with
  | nil => rfl
  | cons b l ih => simp only [esc, List.flatMap_cons] at *; rw [escB_high (h b (by simp)), ih (fun b hb => h b (by simp [hb]))]; rfl

theorem esc_high' {l : List UInt8} (h : ∀ b ∈ l, escB b = [b]) : esc l = l := by
  induction l with
  | nil => rfl
  | cons b l ih => simp only [esc, List.flatMap_cons] at *; rw [h b (by simp), ih (fun b hb => h b (by simp [hb]))]; rfl
/-- what has been written, and what stands between 'from' and here -/
def EscRel (l : List UInt8) (acc : List UInt8) (frm pos : Nat) : Prop := frm ≤ pos ∧ acc ++ (l.take pos).drop frm = esc (l.take pos)

theorem EscRel.stay {l acc : List UInt8} {frm pos d : Nat} (h : EscRel l acc frm pos) (hp : pos + d ≤ l.length) (hd : esc ((l.drop pos).take d) = (l.drop pos).take d) : EscRel l acc frm (pos + d) := by
  have h1 := h.1
  refine ⟨by omega, ?_⟩
  rw [List.take_add, esc_append, hd, ← h.2, List.append_assoc, List.drop_append_of_le_length (by rw [List.length_take]; omega)]
theorem EscRel.turn {l acc w : List UInt8} {frm pos : Nat} {b : UInt8} (h : EscRel l acc frm pos) (hb : l[pos]? = some b) (hw : escB b = w) :
    EscRel l (acc ++ ((l.take pos).drop frm ++ w)) (pos + 1) (pos + 1) := by
  refine ⟨Nat.le_refl _, ?_⟩
  have hl : pos < l.length := (List.getElem?_eq_some_iff.1 hb).1
  have hd : (l.take (pos + 1)).drop (pos + 1) = [] := List.drop_eq_nil_of_le (by rw [List.length_take]; omega)
  rw [hd, List.take_add_one, hb, Option.toList_some, esc_append, ← h.2]
  simp [esc, hw]

theorem u8_eq {b : UInt8} {n : Nat} (h : b.toNat = n) : b = UInt8.ofNat n := by subst h; simp

set_option maxHeartbeats 1000000 in
set_option maxRecDepth 100000 in
theorem escText_any (s : ByteArray) (w : World) (hs : s.size ≤ 1099511627776) :
    Calls Try.prog 81 #[.string s] w fun e w' => e = .returned (.string (S (esc (L s)))) ∧ Below w.heap.size w w' := by
  go_enter Try.func81, Try.ntmps81
  go_wp2
  go_loopw [4] (fun frm wr => ∃ (pos f : Nat) (acc : List UInt8), frm = .int .i64 f ∧ pos ≤ s.size ∧ EscRel (L s) acc f pos ∧ acc.length ≤ 6 * f ∧ Bld w.heap.size w.heap.size acc wr ∧ wr.heap[w.heap.size + 1]? = some (.stringIter s pos) ∧ Below w.heap.size w wr)
    (fun _ wr => s.size - wr.iterPos (w.heap.size + 1))
  case atStart =>
    refine ⟨0, 0, [], rfl, by omega, ⟨by omega, rfl⟩, by simp, (Bld.new w).alloc _, ?_, ((Below.refl _ w).alloc (Nat.le_refl _) _).alloc (by simp) _⟩
    have := World.iter_heap (w.alloc (.cells #[.pointer none, .slice none 0 0] 69)) s 0
    simpa using this
  case round =>
    obtain ⟨pos, f, acc, rfl, hps, hE, hal, hI, hit, hbw⟩ := hrel
    have hsz : w.heap.size + 1 < wr.heap.size := (Array.getElem?_eq_some_iff.1 hit).1
    have hf := hE.1
    by_cases hp : pos < s.size
    · have hnx : ∀ ty, (Instr.next (.pointer (some ⟨w.heap.size + 1, 0, none⟩)) true ty).run Try.prog wr = _ := fun ty => Lib.run_next_any_at wr (w.heap.size + 1) s pos ty hit hp
      obtain ⟨⟨dlo, dhi⟩, dw, dle, dmid⟩ := decode_span s pos hp
      have hpl : pos < (L s).length := by simpa using hp
      have hb : (L s)[pos]? = some (L s)[pos] := List.getElem?_eq_getElem hpl
      generalize hbb : (L s)[pos] = b at *
      have hI2 := hI.iterAt hit (pos + (Utf8.decode s pos).2)
      have hit2 := Lib.iterAt_heap wr (w.heap.size + 1) s pos (pos + (Utf8.decode s pos).2) hit
      have hbw2 := Lib.below_iterAt hbw (k := w.heap.size + 1) (by omega) s (pos + (Utf8.decode s pos).2)
      have hsz2 : w.heap.size ≤ (wr.iterAt (w.heap.size + 1) s (pos + (Utf8.decode s pos).2)).heap.size := by rw [Lib.iterAt_size]; omega
      by_cases hsp : b.toNat = 38 ∨ b.toNat = 60 ∨ b.toNat = 62 ∨ b.toNat = 34 ∨ b.toNat = 0
      · rcases hsp with hq | hq | hq | hq | hq
        all_goals
          have hd := dlo (by omega)
          rw [hq] at hd
          rw [hd] at hnx hit2 hI2 hbw2 hsz2
          have HB := Lib.hid (u8_eq hq)
          have HE := Lib.hid hE
          clear hd hbb hq dlo dhi dmid hI hbw hE
          have Hit := Lib.hid hit
          clear hit
          go_wp2_with fail
          refine (writeString_any w.heap.size w.heap.size acc _ _ hI2 ?_ hsz2).mono ?_
          · simp only [ByteArray.size_append, ByteArray.size_extract, size_lit, List.size_toArray, List.length_cons, List.length_nil]
            omega
          rintro e W1 ⟨rfl, h1, b1, k1⟩
          go_wp2
          go_roundw
          case rel =>
            refine ⟨pos + 1, pos + 1, _, by go_num, by omega, ?_, ?_, h1, k1.iter hit2 (by omega), hbw2.trans b1⟩
            · simp only [L_append, L_extract, L_lit]
              refine HE.out.turn (w := _) hb ?_
              rw [HB.out]; rfl
            · simp only [List.length_append, length_L, ByteArray.size_append, ByteArray.size_extract, size_lit, List.size_toArray, List.length_cons, List.length_nil]
              omega
          case measure =>
            simp only [World.iterPos, k1.iter hit2 (by omega), Hit.out]
            omega
      · have hid : escB b = [b] := escB_id (by omega)
        have hstay : EscRel (L s) acc f (pos + (Utf8.decode s pos).2) := by
          refine hE.stay (by simpa using dle) (esc_high' ?_)
          intro c hc
          obtain ⟨i, hi, rfl⟩ := List.getElem_of_mem hc
          have hi' : i < (Utf8.decode s pos).2 := by simp only [List.length_take] at hi; omega
          rw [List.getElem_take, List.getElem_drop]
          rcases Nat.eq_zero_or_pos i with rfl | h0
          · simp only [Nat.add_zero]; rw [hbb]; exact hid
          · exact escB_high (dmid (pos + i) (by omega) (by omega) (by omega))
        have hr : ∀ n : Nat, (n = 38 ∨ n = 60 ∨ n = 62 ∨ n = 34 ∨ n = 0) → (((Utf8.decode s pos).1 : Int) == n) = false := by
          intro n hn
          refine beq_eq_false_iff_ne.2 (fun e => ?_)
          have e : (Utf8.decode s pos).1 = n := by omega
          by_cases hlo : b.toNat < 128
          · rw [dlo hlo] at e; simp only at e; omega
          · have := dhi (by omega); omega
        have r1 := hr 38 (by omega)
        have r2 := hr 60 (by omega)
        have r3 := hr 62 (by omega)
        have r4 := hr 34 (by omega)
        have r5 := hr 0 (by omega)
        clear dlo dhi dmid hid hbb hb hr
        have Hit := Lib.hid hit
        clear hit
        go_wp2
        go_roundw
        case rel => exact ⟨_, f, acc, rfl, by omega, hstay, hal, hI2, hit2, hbw2⟩
        case measure =>
          simp only [World.iterPos, hit2, Hit.out]
          omega
    · have hnx : ∀ ty, (Instr.next (.pointer (some ⟨w.heap.size + 1, 0, none⟩)) true ty).run Try.prog wr = _ := fun ty => Lib.run_next_end_at wr (w.heap.size + 1) s pos ty hit hp
      have hfin : acc ++ (L s).drop f = esc (L s) := by
        have := hE.2
        rwa [List.take_of_length_le (by simp; omega)] at this
      have HF := Lib.hid hfin
      have Hit := Lib.hid hit
      clear hfin hit hE
      have hfs : f ≤ s.size := by omega
      go_wp2_with fail
      go_region_with (go_at_call 35; refine (string_any w.heap.size w.heap.size acc _ (by exact hI) (by simp; omega)).mono ?_; rintro e W1 ⟨rfl, h1, b1, k1⟩)
      all_goals go_wp2
      all_goals go_ret
      all_goals
        refine ⟨?_, hbw.drew.trans b1⟩
        rw [← HF.out]
        have e1 : S acc ++ s.extract f s.size = S (acc ++ (L s).drop f) := by
          rw [S_append, L_extract, List.take_of_length_le (by simp)]
        exact congrArg (fun x => Ending.returned (Value.string x)) e1
end Go.Proofs.Ytfdfpimilmhhoaa
