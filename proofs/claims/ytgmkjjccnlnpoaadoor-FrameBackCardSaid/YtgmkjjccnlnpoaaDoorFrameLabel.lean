/-
  frame.label: its contract.
-/
import Derived.Test.YtgmkjjccnlnpoaaDoorFrameLib
namespace Go.Proofs.YtgmkjjccnlnpoaaDoor
open Go.RowKit

def badC : ByteArray := ⟨#[123, 125, 124, 58, 32, 9]⟩
/-- what may be a label -/
def labelT (l : List UInt8) : Bool := !l.isEmpty && decide (l.length ≤ 40) && l.all (fun b => !(L badC).contains b)

set_option maxHeartbeats 1000000 in
set_option maxRecDepth 100000 in
theorem indexRune_not (r : Nat) (cs : ByteArray) (w : World) (h1 : 1114111 < r ∨ (55296 ≤ r ∧ r ≤ 57343)) (h2 : r < 2147483648) :
    Calls Tryd.prog 56 #[.string cs, .int .i32 (r : Int)] w fun e w' => e = .returned (.int .i64 (-1)) ∧ Below w.heap.size w w' := by
  have q1 : decide ((r : Int) < 128) = false := decide_eq_false (by omega)
  have q2 : ((r : Int) == 65533) = false := beq_eq_false_iff_ne.2 (by omega)
  have hv : Lib.validRune (r : Int) = false := decide_eq_false (by omega)
  go_enter Tryd.func56, Tryd.ntmps56
  go_wp2_with fail
  refine (Tryd.utf8_ValidRune _ _).mono ?_
  rintro e w1 ⟨rfl, rfl⟩
  rw [hv]
  clear hv
  go_wp2_with fail
  go_ret
  exact ⟨rfl, Below.refl _ _⟩

theorem badC_ascii : ∀ x ∈ L badC, x.toNat < 128 := by decide

theorem indexRune_hi (r : Nat) (w : World) (hr : 128 ≤ r) (h2 : r < 2147483648) :
    Calls Tryd.prog 56 #[.string badC, .int .i32 (r : Int)] w fun e w' => e = .returned (.int .i64 (-1)) ∧ Below w.heap.size w w' := by
  by_cases h3 : r = 65533
  · subst h3
    exact indexRune_bad badC w (by decide) badC_ascii
  by_cases h1 : 1114111 < r ∨ (55296 ≤ r ∧ r ≤ 57343)
  · exact indexRune_not r badC w h1 h2
  · have hv : Lib.validRune (r : Int) = true := decide_eq_true (by omega)
    obtain ⟨E, k, hE, hk, hs, hlt, hhi⟩ := enc_far r hr
    rcases hk with rfl | rfl | rfl
    · exact indexRune_far1 r 125 badC E w hr h3 hv hE hs hlt hhi rfl (by decide) rfl (by decide) badC_ascii
    · exact indexRune_far2 r 124 badC E w hr h3 hv hE hs hlt hhi rfl (by decide) rfl (by decide) badC_ascii
    · exact indexRune_far3 r 58 badC E w hr h3 hv hE hs hlt hhi rfl (by decide) rfl (by decide) badC_ascii

set_option maxHeartbeats 1000000 in
set_option maxRecDepth 100000 in
theorem containsRune_hi (r : Nat) (w : World) (hr : 128 ≤ r) (h2 : r < 2147483648) :
    Calls Tryd.prog 39 #[.string badC, .int .i32 (r : Int)] w fun e w' => e = .returned (.bool false) ∧ Below w.heap.size w w' := by
  go_enter Tryd.func39, Tryd.ntmps39
  go_wp2_with fail
  refine (indexRune_hi r _ hr h2).mono ?_
  rintro e w1 ⟨rfl, b1⟩
  go_wp2_with fail
  go_ret
  exact ⟨rfl, b1⟩

set_option maxHeartbeats 2000000 in
set_option maxRecDepth 100000 in
theorem label_any (s : ByteArray) (w : World) (hs : s.size ≤ 9223372036854775807) :
    Calls Tryd.prog 19 #[.string s] w fun e w' => e = .returned (.bool (labelT (L s))) ∧ Below w.heap.size w w' := by
  have HLO : ∀ (b : UInt8) (w : World), b.toNat < 128 → Calls Tryd.prog 39 #[.string ⟨#[123, 125, 124, 58, 32, 9]⟩, .int .i32 (b.toNat : Int)] w fun e w' => e = .returned (.bool ((L badC).contains b)) ∧ w = w' := fun b w hb => contains_any badC b w hb
  have HHI : ∀ (r : Nat) (w : World), 128 ≤ r → r < 2147483648 → Calls Tryd.prog 39 #[.string ⟨#[123, 125, 124, 58, 32, 9]⟩, .int .i32 (r : Int)] w fun e w' => e = .returned (.bool false) ∧ Below w.heap.size w w' := fun r w h1 h2 => containsRune_hi r w h1 h2
  have HLo := Lib.hid HLO
  have HHi := Lib.hid HHI
  clear HLO HHI
  go_enter Tryd.func19, Tryd.ntmps19
  go_wp2_with fail
  go_loopw [4] (fun _ wr => ∃ pos : Nat, pos ≤ s.size ∧ (∀ b ∈ (L s).take pos, (L badC).contains b = false) ∧ wr.heap[w.heap.size]? = some (.stringIter s pos) ∧ Below w.heap.size w wr)
    (fun _ wr => s.size - wr.iterPos w.heap.size)
  case atStart =>
    refine ⟨0, by omega, by simp, ?_, (Below.refl _ w).alloc (Nat.le_refl _) _⟩
    exact World.iter_heap w s 0
  case round =>
    obtain ⟨pos, hps, hall, hit, hbw⟩ := hrel
    have hsz : w.heap.size < wr.heap.size := (Array.getElem?_eq_some_iff.1 hit).1
    have HALL := Lib.hid hall
    clear hall
    by_cases hp : pos < s.size
    · have hnx : ∀ ty, (Instr.next (.pointer (some ⟨w.heap.size, 0, none⟩)) true ty).run Tryd.prog wr = _ := fun ty => Lib.run_next_any_at wr w.heap.size s pos ty hit hp
      obtain ⟨⟨dlo, dhi⟩, dw, dle, dmid⟩ := decode_span s pos hp
      have hpl : pos < (L s).length := by simpa using hp
      have hit2 := Lib.iterAt_heap wr w.heap.size s pos (pos + (Utf8.decode s pos).2) hit
      have hbw2 := Lib.below_iterAt hbw (k := w.heap.size) (by omega) s (pos + (Utf8.decode s pos).2)
      obtain ⟨b, hb⟩ : ∃ b, (L s)[pos]'hpl = b := ⟨_, rfl⟩
      have hb2 : (L s)[pos]? = some b := by rw [List.getElem?_eq_getElem hpl, hb]
      rw [hb] at dlo dhi
      have hdle := decode_le s pos
      by_cases hlow : b.toNat < 128
      · have hd := dlo hlow
        rw [hd] at hnx hit2 hbw2
        cases hc : (L badC).contains b
        · have HA : Hid (∀ x ∈ (L s).take (pos + 1), (L badC).contains x = false) := Lib.hid (by
            intro x hx
            rw [List.take_add_one, hb2, Option.toList_some, List.mem_append, List.mem_singleton] at hx
            rcases hx with hx | rfl
            · exact HALL.out x hx
            · exact hc)
          have Hit := Lib.hid hit
          clear hd dlo dhi dmid hit hbw hb hb2
          go_wp2_with (go_at_call 39; refine (HLo.out b _ hlow).mono ?_; rintro e w3 ⟨rfl, rfl⟩; rw [hc])
          go_roundw
          case rel => exact ⟨pos + 1, by omega, HA.out, hit2, hbw2⟩
          case measure => simp only [World.iterPos, hit2, Hit.out]; omega
        · have HR : Hid (labelT (L s) = false) := Lib.hid (by
            have : (L s).all (fun b => !(L badC).contains b) = false := by
              rw [List.all_eq_false]
              exact ⟨b, List.mem_of_getElem? hb2, by rw [hc]; decide⟩
            unfold labelT; rw [this, Bool.and_false])
          clear hd dlo dhi dmid hit hbw hb hb2
          go_wp2_with (go_at_call 39; refine (HLo.out b _ hlow).mono ?_; rintro e w3 ⟨rfl, rfl⟩; rw [hc])
          go_ret
          rw [HR.out]
          exact ⟨rfl, hbw2⟩
      · have hd := dhi (by omega)
        generalize Utf8.decode s pos = D at *
        obtain ⟨r, dd⟩ := D
        have HA : Hid (∀ x ∈ (L s).take (pos + dd), (L badC).contains x = false) := Lib.hid (by
          intro x hx
          obtain ⟨i, hi, e⟩ := List.mem_iff_getElem.1 hx
          rw [List.getElem_take] at e
          have hi2 : i < pos + dd ∧ i < (L s).length := by rw [List.length_take] at hi; omega
          have hhi : ∀ y : UInt8, 128 ≤ y.toNat → (L badC).contains y = false := by
            intro y hy
            cases hcc : (L badC).contains y
            · rfl
            · have := badC_ascii y (by simpa using hcc); omega
          rcases (by omega : i < pos ∨ i = pos ∨ pos < i) with h | rfl | h
          · exact HALL.out x (List.mem_of_getElem? (i := i) (by rw [List.getElem?_take, if_pos h, List.getElem?_eq_getElem hi2.2, e]))
          · rw [← e]; rw [hb]; exact hhi b (by omega)
          · rw [← e]; exact hhi _ (dmid i (by simpa using hi2.2) h hi2.1))
        have Hit := Lib.hid hit
        clear dlo dhi dmid hit hbw hb hb2
        simp only at hd hdle hit2 hbw2 hnx dw dle
        have bsz : (w.heap.size : Nat) ≤ (wr.heap.size : Nat) := by omega
        go_wp2_with (go_at_call 39; refine (HHi.out r _ (by omega) (by omega)).mono ?_; rintro e w3 ⟨rfl, b3⟩)
        have hW := (Array.getElem?_eq_some_iff.1 hit2).1
        have hit3 := (b3.block w.heap.size hW).trans hit2
        have hbw3 := hbw2.trans (b3.mono (Nat.le_of_lt hW))
        go_roundw
        case rel => exact ⟨pos + dd, by omega, HA.out, hit3, hbw3⟩
        case measure => simp only [World.iterPos, hit3, Hit.out]; omega
    · have hnx : ∀ ty, (Instr.next (.pointer (some ⟨w.heap.size, 0, none⟩)) true ty).run Tryd.prog wr = _ := fun ty => Lib.run_next_end_at wr w.heap.size s pos ty hit hp
      have hpe : pos = s.size := by omega
      have hA : (L s).all (fun b => !(L badC).contains b) = true := List.all_eq_true.2 (by
        have := HALL.out
        rw [List.take_of_length_le (by simp; omega)] at this
        intro x hx
        rw [this x hx]; rfl)
      by_cases h0 : s.size = 0
      · have hz := bytes_none h0
        subst hz
        clear hA
        go_wp2_with fail
        go_ret
        exact ⟨rfl, hbw⟩
      · obtain ⟨t1, t2, t3⟩ := bytes_some h0
        have HR : Hid (labelT (L s) = decide ((s.size : Int) ≤ 40)) := Lib.hid (by
          unfold labelT
          rw [hA, Bool.and_true]
          have hne : (L s).isEmpty = false := by
            cases h : L s with
            | nil => exact absurd (by have := congrArg List.length h; simpa using this) h0
            | cons => rfl
          rw [hne, length_L]
          by_cases h20 : s.size ≤ 40
          · rw [decide_eq_true h20, decide_eq_true (by omega : (s.size : Int) ≤ 40)]; rfl
          · rw [decide_eq_false h20, decide_eq_false (by omega : ¬ (s.size : Int) ≤ 40)]; rfl)
        clear hA hpe
        go_wp2_with fail
        go_ret
        rw [HR.out]
        exact ⟨rfl, hbw⟩
end Go.Proofs.YtgmkjjccnlnpoaaDoor
