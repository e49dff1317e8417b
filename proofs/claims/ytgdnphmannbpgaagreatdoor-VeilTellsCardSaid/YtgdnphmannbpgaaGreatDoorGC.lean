/- Joined texts: FrameLib, FrameLabel, FrameOpen, FrameHead, Parts. -/
import Derived.Test.YtgdnphmannbpgaaGreatDoorGB
import Derived.WalkMore
import Derived.Lib.LastIndexLaws
import Derived.OwnWalk
/-
  The library's ContainsRune, TrimRight at the arguments that frame hands in: contracts.
-/
namespace Go.Proofs.YtgdnphmannbpgaaGreatDoor
open Go.RowKit

theorem idx_mem (l : List UInt8) (c : UInt8) : decide (0 ≤ Lib.indexByte l c) = l.contains c := by
  induction l with
  | nil => rfl
  | cons b l ih =>
    have h1 := Lib.indexByte_ge l c
    rw [Lib.indexByte, List.contains_cons, ← ih]
    by_cases hb : b = c
    · subst hb; simp
    · have h2 : (b == c) = false := by simpa using hb
      have h3 : (c == b) = false := by simpa using fun e : c = b => hb e.symm
      rw [h2, h3]
      by_cases h4 : Lib.indexByte l c = -1
      · rw [h4]; rfl
      · have h5 : (Lib.indexByte l c == -1) = false := by simpa using h4
        rw [h5]
        simp only [Bool.false_eq_true, if_false, Bool.false_or]
        by_cases h6 : 0 ≤ Lib.indexByte l c
        · rw [decide_eq_true h6, decide_eq_true (by omega)]
        · omega
theorem contains_any (cs : ByteArray) (b : UInt8) (w : World) (hb : b.toNat < 128) :
    Calls Tryz.prog 93 #[.string cs, .int .i32 (b.toNat : Int)] w fun e w' => e = .returned (.bool ((L cs).contains b)) ∧ w = w' := by
  refine (Tryz.strings_ContainsRune_ascii cs (b.toNat : Int) w (by omega) (by omega)).mono ?_
  rintro e w1 ⟨rfl, rfl⟩
  rw [show ((b.toNat : Int).toNat.toUInt8) = b by simp, idx_mem]
  exact ⟨rfl, rfl⟩
theorem trimRight1_any (s : ByteArray) (c : UInt8) (hc : c.toNat < 128) (w : World) (hs : s.size ≤ 9223372036854775807) :
    Calls Tryz.prog 68 #[.string s, .string ⟨#[c]⟩] w fun e w' => e = .returned (.string (S (Lib.trimRightB (L s) c))) ∧ w = w' :=
  (Tryz.strings_TrimRight_one s c hc w hs).mono fun _ _ ⟨h, h'⟩ => ⟨h, h'.symm⟩

theorem enc_far (r : Nat) (hr : 128 ≤ r) : ∃ (E : ByteArray) (k : Nat), Utf8.encode (r : Int) = E ∧ (k = 1 ∨ k = 2 ∨ k = 3) ∧ E.size = k + 1 ∧ ∃ h : k < E.size, 128 ≤ (E[k]'h).toNat := by
  unfold Utf8.encode
  have hc : 128 ≤ (if Utf8.valid (r : Int) then (r : Int).toNat else Utf8.runeError) := by
    split
    · omega
    · decide
  generalize (if Utf8.valid (r : Int) then (r : Int).toNat else Utf8.runeError) = c at *
  simp only []
  rw [if_neg (by omega)]
  split
  · exact ⟨_, 1, rfl, .inl rfl, rfl, (by show 1 < 2; omega), by show 128 ≤ (UInt8.ofNat (128 + c % 64)).toNat; simp; omega⟩
  · split
    · exact ⟨_, 2, rfl, .inr (.inl rfl), rfl, (by show 2 < 3; omega), by show 128 ≤ (UInt8.ofNat (128 + c % 64)).toNat; simp; omega⟩
    · exact ⟨_, 3, rfl, .inr (.inr rfl), rfl, (by show 3 < 4; omega), by show 128 ≤ (UInt8.ofNat (128 + c % 64)).toNat; simp; omega⟩

set_option maxHeartbeats 1000000 in
set_option maxRecDepth 100000 in
theorem indexRune_far1 (r : Nat) (d : UInt8) (cs E : ByteArray) (w : World) (hr : 128 ≤ r) (hr2 : r ≠ 65533) (hv : Lib.validRune (r : Int) = true) (hE : Utf8.encode (r : Int) = E) (hEs : E.size = 2) (hE1 : 1 < E.size) (hE2 : 128 ≤ (E[1]'hE1).toNat)
    (h3 : cs.size = 6) (g0 : 1 < cs.size) (g1 : cs[1]'g0 = d) (hd : d.toNat < 128) (hA : ∀ x ∈ L cs, x.toNat < 128) :
    Calls Tryz.prog 115 #[.string cs, .int .i32 (r : Int)] w fun e w' => e = .returned (.int .i64 (-1)) ∧ Below w.heap.size w w' := by
  have q1 : decide ((r : Int) < 128) = false := decide_eq_false (by omega)
  have q2 : ((r : Int) == 65533) = false := beq_eq_false_iff_ne.2 (by omega)
  obtain ⟨y, hy⟩ : ∃ y, E[1]'hE1 = y := ⟨_, rfl⟩
  rw [hy] at hE2
  go_enter Tryz.func115, Tryz.ntmps115
  go_wp2_with fail
  refine (Tryz.utf8_ValidRune _ _).mono ?_
  rintro e w1 ⟨rfl, rfl⟩
  rw [hv]
  clear hv
  go_wp2_with fail
  go_step3
  go_wp2_with fail
  refine wp_loop_rounds 1 ?_
  rw [rounds_succ]
  go_wp2_with fail
  go_step3
  go_wp2_with fail
  have q3 : ((d.toNat : Int) != (y.toNat : Int)) = true := by rw [bne_iff_ne]; omega
  have hm : Lib.indexByte (cs.extract 2 6).data.toList y = -1 := by
    have h1 := Lib.indexByte_ge (cs.extract 2 6).data.toList y
    have h2 := idx_mem (cs.extract 2 6).data.toList y
    have h4 : (cs.extract 2 6).data.toList.contains y = false := by
      cases hc : (cs.extract 2 6).data.toList.contains y with
      | false => rfl
      | true =>
        have hmem : y ∈ L (cs.extract 2 6) := List.contains_iff_mem.1 hc
        rw [L_extract] at hmem
        have := hA y (List.mem_of_mem_take (List.mem_of_mem_drop hmem))
        omega
    rw [h4] at h2
    have h5 := of_decide_eq_false h2
    omega
  have cidx : ∀ W, Calls Tryz.prog 122 #[.string (cs.extract 2 6), .int .u8 (y.toNat : Int)] W fun e w' => e = .returned (.int .i64 (-1)) ∧ w' = W := fun W => by
    refine (Tryz.strings_IndexByte (cs.extract 2 6) (y.toNat : Int) W).mono ?_
    rintro e w2 ⟨rfl, rfl⟩
    rw [show ((y.toNat : Int).toNat.toUInt8) = y by simp, hm]
    exact ⟨rfl, rfl⟩
  clear hm
  go_quiet (fail)
  have bb2 : Below w1.heap.size w1 (w1.drewN nq) := below_drewN' (Below.refl _ _) nq
  generalize w1.drewN nq = w2 at *
  go_wp2_with fail
  have hw2 : IntKind.i64.wrap 2 = 2 := IntWalk.i64_in _ (by omega)
  have hw3 : (2 : Int) ≤ (cs.size : Int) := by omega
  have hw4 : (2 : Int) ≤ 6 := by omega
  go_quiet ((go_at_call 122; exact Calls.quiet_of_same (cidx _)))
  have bb3 := below_drewN' bb2 nq
  go_wp2_with fail
  simp only [Exit.noGoto, Exit.inBlock, Exit.then]
  go_ret
  exact ⟨rfl, bb3⟩

set_option maxHeartbeats 1000000 in
set_option maxRecDepth 100000 in
theorem indexRune_far2 (r : Nat) (d : UInt8) (cs E : ByteArray) (w : World) (hr : 128 ≤ r) (hr2 : r ≠ 65533) (hv : Lib.validRune (r : Int) = true) (hE : Utf8.encode (r : Int) = E) (hEs : E.size = 3) (hE1 : 2 < E.size) (hE2 : 128 ≤ (E[2]'hE1).toNat)
    (h3 : cs.size = 6) (g0 : 2 < cs.size) (g1 : cs[2]'g0 = d) (hd : d.toNat < 128) (hA : ∀ x ∈ L cs, x.toNat < 128) :
    Calls Tryz.prog 115 #[.string cs, .int .i32 (r : Int)] w fun e w' => e = .returned (.int .i64 (-1)) ∧ Below w.heap.size w w' := by
  have q1 : decide ((r : Int) < 128) = false := decide_eq_false (by omega)
  have q2 : ((r : Int) == 65533) = false := beq_eq_false_iff_ne.2 (by omega)
  obtain ⟨y, hy⟩ : ∃ y, E[2]'hE1 = y := ⟨_, rfl⟩
  rw [hy] at hE2
  go_enter Tryz.func115, Tryz.ntmps115
  go_wp2_with fail
  refine (Tryz.utf8_ValidRune _ _).mono ?_
  rintro e w1 ⟨rfl, rfl⟩
  rw [hv]
  clear hv
  go_wp2_with fail
  go_step3
  go_wp2_with fail
  refine wp_loop_rounds 1 ?_
  rw [rounds_succ]
  go_wp2_with fail
  go_step3
  go_wp2_with fail
  have q3 : ((d.toNat : Int) != (y.toNat : Int)) = true := by rw [bne_iff_ne]; omega
  have hm : Lib.indexByte (cs.extract 3 6).data.toList y = -1 := by
    have h1 := Lib.indexByte_ge (cs.extract 3 6).data.toList y
    have h2 := idx_mem (cs.extract 3 6).data.toList y
    have h4 : (cs.extract 3 6).data.toList.contains y = false := by
      cases hc : (cs.extract 3 6).data.toList.contains y with
      | false => rfl
      | true =>
        have hmem : y ∈ L (cs.extract 3 6) := List.contains_iff_mem.1 hc
        rw [L_extract] at hmem
        have := hA y (List.mem_of_mem_take (List.mem_of_mem_drop hmem))
        omega
    rw [h4] at h2
    have h5 := of_decide_eq_false h2
    omega
  have cidx : ∀ W, Calls Tryz.prog 122 #[.string (cs.extract 3 6), .int .u8 (y.toNat : Int)] W fun e w' => e = .returned (.int .i64 (-1)) ∧ w' = W := fun W => by
    refine (Tryz.strings_IndexByte (cs.extract 3 6) (y.toNat : Int) W).mono ?_
    rintro e w2 ⟨rfl, rfl⟩
    rw [show ((y.toNat : Int).toNat.toUInt8) = y by simp, hm]
    exact ⟨rfl, rfl⟩
  clear hm
  go_quiet (fail)
  have bb2 : Below w1.heap.size w1 (w1.drewN nq) := below_drewN' (Below.refl _ _) nq
  generalize w1.drewN nq = w2 at *
  go_wp2_with fail
  have hw2 : IntKind.i64.wrap 3 = 3 := IntWalk.i64_in _ (by omega)
  have hw3 : (3 : Int) ≤ (cs.size : Int) := by omega
  have hw4 : (3 : Int) ≤ 6 := by omega
  go_quiet ((go_at_call 122; exact Calls.quiet_of_same (cidx _)))
  have bb3 := below_drewN' bb2 nq
  go_wp2_with fail
  simp only [Exit.noGoto, Exit.inBlock, Exit.then]
  go_ret
  exact ⟨rfl, bb3⟩

set_option maxHeartbeats 1000000 in
set_option maxRecDepth 100000 in
theorem indexRune_far3 (r : Nat) (d : UInt8) (cs E : ByteArray) (w : World) (hr : 128 ≤ r) (hr2 : r ≠ 65533) (hv : Lib.validRune (r : Int) = true) (hE : Utf8.encode (r : Int) = E) (hEs : E.size = 4) (hE1 : 3 < E.size) (hE2 : 128 ≤ (E[3]'hE1).toNat)
    (h3 : cs.size = 6) (g0 : 3 < cs.size) (g1 : cs[3]'g0 = d) (hd : d.toNat < 128) (hA : ∀ x ∈ L cs, x.toNat < 128) :
    Calls Tryz.prog 115 #[.string cs, .int .i32 (r : Int)] w fun e w' => e = .returned (.int .i64 (-1)) ∧ Below w.heap.size w w' := by
  have q1 : decide ((r : Int) < 128) = false := decide_eq_false (by omega)
  have q2 : ((r : Int) == 65533) = false := beq_eq_false_iff_ne.2 (by omega)
  obtain ⟨y, hy⟩ : ∃ y, E[3]'hE1 = y := ⟨_, rfl⟩
  rw [hy] at hE2
  go_enter Tryz.func115, Tryz.ntmps115
  go_wp2_with fail
  refine (Tryz.utf8_ValidRune _ _).mono ?_
  rintro e w1 ⟨rfl, rfl⟩
  rw [hv]
  clear hv
  go_wp2_with fail
  go_step3
  go_wp2_with fail
  refine wp_loop_rounds 1 ?_
  rw [rounds_succ]
  go_wp2_with fail
  go_step3
  go_wp2_with fail
  have q3 : ((d.toNat : Int) != (y.toNat : Int)) = true := by rw [bne_iff_ne]; omega
  have hm : Lib.indexByte (cs.extract 4 6).data.toList y = -1 := by
    have h1 := Lib.indexByte_ge (cs.extract 4 6).data.toList y
    have h2 := idx_mem (cs.extract 4 6).data.toList y
    have h4 : (cs.extract 4 6).data.toList.contains y = false := by
      cases hc : (cs.extract 4 6).data.toList.contains y with
      | false => rfl
      | true =>
        have hmem : y ∈ L (cs.extract 4 6) := List.contains_iff_mem.1 hc
        rw [L_extract] at hmem
        have := hA y (List.mem_of_mem_take (List.mem_of_mem_drop hmem))
        omega
    rw [h4] at h2
    have h5 := of_decide_eq_false h2
    omega
  have cidx : ∀ W, Calls Tryz.prog 122 #[.string (cs.extract 4 6), .int .u8 (y.toNat : Int)] W fun e w' => e = .returned (.int .i64 (-1)) ∧ w' = W := fun W => by
    refine (Tryz.strings_IndexByte (cs.extract 4 6) (y.toNat : Int) W).mono ?_
    rintro e w2 ⟨rfl, rfl⟩
    rw [show ((y.toNat : Int).toNat.toUInt8) = y by simp, hm]
    exact ⟨rfl, rfl⟩
  clear hm
  go_quiet (fail)
  have bb2 : Below w1.heap.size w1 (w1.drewN nq) := below_drewN' (Below.refl _ _) nq
  generalize w1.drewN nq = w2 at *
  go_wp2_with fail
  have hw2 : IntKind.i64.wrap 4 = 4 := IntWalk.i64_in _ (by omega)
  have hw3 : (4 : Int) ≤ (cs.size : Int) := by omega
  have hw4 : (4 : Int) ≤ 6 := by omega
  go_quiet ((go_at_call 122; exact Calls.quiet_of_same (cidx _)))
  have bb3 := below_drewN' bb2 nq
  go_wp2_with fail
  simp only [Exit.noGoto, Exit.inBlock, Exit.then]
  go_ret
  exact ⟨rfl, bb3⟩


set_option maxHeartbeats 1000000 in
set_option maxRecDepth 100000 in
/-- the rune that stands for what is none, on ASCII -/
theorem indexRune_bad (cs : ByteArray) (w : World) (hcs : cs.size ≤ 100) (hA : ∀ x ∈ L cs, x.toNat < 128) :
    Calls Tryz.prog 115 #[.string cs, .int .i32 65533] w fun e w' => e = .returned (.int .i64 (-1)) ∧ Below w.heap.size w w' := by
  go_enter Tryz.func115, Tryz.ntmps115
  go_wp2_with fail
  go_loopw [5] (fun _ wr => ∃ pos : Nat, pos ≤ cs.size ∧ wr.heap[w.heap.size]? = some (.stringIter cs pos) ∧ Below w.heap.size w wr) (fun _ wr => cs.size - wr.iterPos w.heap.size)
  case atStart => exact ⟨0, by omega, World.iter_heap w cs 0, (Below.refl _ w).alloc (Nat.le_refl _) _⟩
  case round =>
    obtain ⟨pos, hps, hit, hbw⟩ := hrel
    have hsz : w.heap.size < wr.heap.size := (Array.getElem?_eq_some_iff.1 hit).1
    by_cases hp : pos < cs.size
    · have hnx : ∀ ty, (Instr.next (.pointer (some ⟨w.heap.size, 0, none⟩)) true ty).run Tryz.prog wr = _ := fun ty => Lib.run_next_any_at wr w.heap.size cs pos ty hit hp
      obtain ⟨⟨dlo, dhi⟩, dw, dle, dmid⟩ := decode_span cs pos hp
      have hpl : pos < (L cs).length := by simpa using hp
      have hit2 := Lib.iterAt_heap wr w.heap.size cs pos (pos + (Utf8.decode cs pos).2) hit
      have hbw2 := Lib.below_iterAt hbw (k := w.heap.size) (by omega) cs (pos + (Utf8.decode cs pos).2)
      have hlow := hA _ (List.getElem_mem hpl)
      have hd := dlo hlow
      generalize ((L cs)[pos]'hpl) = b at *
      rw [hd] at hnx hit2 hbw2
      have q1 : ((b.toNat : Int) == 65533) = false := beq_eq_false_iff_ne.2 (by omega)
      clear hd dlo dhi dmid dw dle hA
      have Hit := Lib.hid hit
      clear hit hbw
      go_wp2_with fail
      go_roundw
      case rel => exact ⟨pos + 1, by omega, hit2, hbw2⟩
      case measure => simp only [World.iterPos, hit2, Hit.out]; omega
    · have hnx : ∀ ty, (Instr.next (.pointer (some ⟨w.heap.size, 0, none⟩)) true ty).run Tryz.prog wr = _ := fun ty => Lib.run_next_end_at wr w.heap.size cs pos ty hit hp
      go_wp2_with fail
      go_ret
      exact ⟨rfl, hbw⟩
end Go.Proofs.YtgdnphmannbpgaaGreatDoor
/-
  frame.label: its contract.
-/
namespace Go.Proofs.YtgdnphmannbpgaaGreatDoor
open Go.RowKit

def badC : ByteArray := ⟨#[123, 125, 124, 58, 32, 9]⟩
/-- what may be a label -/
def labelT (l : List UInt8) : Bool := !l.isEmpty && decide (l.length ≤ 40) && l.all (fun b => !(L badC).contains b)

set_option maxHeartbeats 1000000 in
set_option maxRecDepth 100000 in
theorem indexRune_not (r : Nat) (cs : ByteArray) (w : World) (h1 : 1114111 < r ∨ (55296 ≤ r ∧ r ≤ 57343)) (h2 : r < 2147483648) :
    Calls Tryz.prog 115 #[.string cs, .int .i32 (r : Int)] w fun e w' => e = .returned (.int .i64 (-1)) ∧ Below w.heap.size w w' := by
  have q1 : decide ((r : Int) < 128) = false := decide_eq_false (by omega)
  have q2 : ((r : Int) == 65533) = false := beq_eq_false_iff_ne.2 (by omega)
  have hv : Lib.validRune (r : Int) = false := decide_eq_false (by omega)
  go_enter Tryz.func115, Tryz.ntmps115
  go_wp2_with fail
  refine (Tryz.utf8_ValidRune _ _).mono ?_
  rintro e w1 ⟨rfl, rfl⟩
  rw [hv]
  clear hv
  go_wp2_with fail
  go_ret
  exact ⟨rfl, Below.refl _ _⟩

theorem badC_ascii : ∀ x ∈ L badC, x.toNat < 128 := by decide

theorem indexRune_hi (r : Nat) (w : World) (hr : 128 ≤ r) (h2 : r < 2147483648) :
    Calls Tryz.prog 115 #[.string badC, .int .i32 (r : Int)] w fun e w' => e = .returned (.int .i64 (-1)) ∧ Below w.heap.size w w' := by
  by_cases h3 : r = 65533
  · subst h3
    exact indexRune_bad badC w (by decide) badC_ascii
  by_cases h1 : 1114111 < r ∨ (55296 ≤ r ∧ r ≤ 57343)
  · exact indexRune_not r badC w h1 h2
  · have hv : Lib.validRune (r : Int) = true := decide_eq_true (by omega)
    obtain ⟨E, k, hE, hk, hs, hlt, hhi⟩ := enc_far r hr
    rcases hk with rfl | rfl | rfl
    · exact indexRune_far1 r 125 badC E w hr h3 hv hE hs hlt hhi rfl (by decide) rfl (by decide) badC_ascii
    · exact indexRune_far2 r 124 badC E w hr h3 hv hE hs hlt hhi rfl (by decide) rfl (by decide) badC_ascii
    · exact indexRune_far3 r 58 badC E w hr h3 hv hE hs hlt hhi rfl (by decide) rfl (by decide) badC_ascii

set_option maxHeartbeats 1000000 in
set_option maxRecDepth 100000 in
theorem containsRune_hi (r : Nat) (w : World) (hr : 128 ≤ r) (h2 : r < 2147483648) :
    Calls Tryz.prog 93 #[.string badC, .int .i32 (r : Int)] w fun e w' => e = .returned (.bool false) ∧ Below w.heap.size w w' := by
  go_enter Tryz.func93, Tryz.ntmps93
  go_wp2_with fail
  refine (indexRune_hi r _ hr h2).mono ?_
  rintro e w1 ⟨rfl, b1⟩
  go_wp2_with fail
  go_ret
  exact ⟨rfl, b1⟩

set_option maxHeartbeats 2000000 in
set_option maxRecDepth 100000 in
theorem label_any (s : ByteArray) (w : World) (hs : s.size ≤ 9223372036854775807) :
    Calls Tryz.prog 70 #[.string s] w fun e w' => e = .returned (.bool (labelT (L s))) ∧ Below w.heap.size w w' := by
  have HLO : ∀ (b : UInt8) (w : World), b.toNat < 128 → Calls Tryz.prog 93 #[.string ⟨#[123, 125, 124, 58, 32, 9]⟩, .int .i32 (b.toNat : Int)] w fun e w' => e = .returned (.bool ((L badC).contains b)) ∧ w = w' := fun b w hb => contains_any badC b w hb
  have HHI : ∀ (r : Nat) (w : World), 128 ≤ r → r < 2147483648 → Calls Tryz.prog 93 #[.string ⟨#[123, 125, 124, 58, 32, 9]⟩, .int .i32 (r : Int)] w fun e w' => e = .returned (.bool false) ∧ Below w.heap.size w w' := fun r w h1 h2 => containsRune_hi r w h1 h2
  have HLo := Lib.hid HLO
  have HHi := Lib.hid HHI
  clear HLO HHI
  go_enter Tryz.func70, Tryz.ntmps70
  go_wp2_with fail
  go_loopw [4] (fun _ wr => ∃ pos : Nat, pos ≤ s.size ∧ (∀ b ∈ (L s).take pos, (L badC).contains b = false) ∧ wr.heap[w.heap.size]? = some (.stringIter s pos) ∧ Below w.heap.size w wr)
    (fun _ wr => s.size - wr.iterPos w.heap.size)
  case atStart =>
    refine ⟨0, by omega, by simp, ?_, (Below.refl _ w).alloc (Nat.le_refl _) _⟩
    exact World.iter_heap w s 0
  case round =>
    obtain ⟨pos, hps, hall, hit, hbw⟩ := hrel
    have hsz : w.heap.size < wr.heap.size := (Array.getElem?_eq_some_iff.1 hit).1
    have HALL := Lib.hid hall
    clear hall
    by_cases hp : pos < s.size
    · have hnx : ∀ ty, (Instr.next (.pointer (some ⟨w.heap.size, 0, none⟩)) true ty).run Tryz.prog wr = _ := fun ty => Lib.run_next_any_at wr w.heap.size s pos ty hit hp
      obtain ⟨⟨dlo, dhi⟩, dw, dle, dmid⟩ := decode_span s pos hp
      have hpl : pos < (L s).length := by simpa using hp
      have hit2 := Lib.iterAt_heap wr w.heap.size s pos (pos + (Utf8.decode s pos).2) hit
      have hbw2 := Lib.below_iterAt hbw (k := w.heap.size) (by omega) s (pos + (Utf8.decode s pos).2)
      obtain ⟨b, hb⟩ : ∃ b, (L s)[pos]'hpl = b := ⟨_, rfl⟩
      have hb2 : (L s)[pos]? = some b := by rw [List.getElem?_eq_getElem hpl, hb]
      rw [hb] at dlo dhi
      have hdle := decode_le s pos
      by_cases hlow : b.toNat < 128
      · have hd := dlo hlow
        rw [hd] at hnx hit2 hbw2
        cases hc : (L badC).contains b
        · have HA : Hid (∀ x ∈ (L s).take (pos + 1), (L badC).contains x = false) := Lib.hid (by
            intro x hx
            rw [List.take_add_one, hb2, Option.toList_some, List.mem_append, List.mem_singleton] at hx
            rcases hx with hx | rfl
            · exact HALL.out x hx
            · exact hc)
          have Hit := Lib.hid hit
          clear hd dlo dhi dmid hit hbw hb hb2
          go_wp2_with (go_at_call 93; refine (HLo.out b _ hlow).mono ?_; rintro e w3 ⟨rfl, rfl⟩; rw [hc])
          go_roundw
          case rel => exact ⟨pos + 1, by omega, HA.out, hit2, hbw2⟩
          case measure => simp only [World.iterPos, hit2, Hit.out]; omega
        · have HR : Hid (labelT (L s) = false) := Lib.hid (by
            have : (L s).all (fun b => !(L badC).contains b) = false := by
              rw [List.all_eq_false]
              exact ⟨b, List.mem_of_getElem? hb2, by rw [hc]; decide⟩
            unfold labelT; rw [this, Bool.and_false])
          clear hd dlo dhi dmid hit hbw hb hb2
          go_wp2_with (go_at_call 93; refine (HLo.out b _ hlow).mono ?_; rintro e w3 ⟨rfl, rfl⟩; rw [hc])
          go_ret
          rw [HR.out]
          exact ⟨rfl, hbw2⟩
      · have hd := dhi (by omega)
        generalize Utf8.decode s pos = D at *
        obtain ⟨r, dd⟩ := D
        have HA : Hid (∀ x ∈ (L s).take (pos + dd), (L badC).contains x = false) := Lib.hid (by
          intro x hx
          obtain ⟨i, hi, e⟩ := List.mem_iff_getElem.1 hx
          rw [List.getElem_take] at e
          have hi2 : i < pos + dd ∧ i < (L s).length := by rw [List.length_take] at hi; omega
          have hhi : ∀ y : UInt8, 128 ≤ y.toNat → (L badC).contains y = false := by
            intro y hy
            cases hcc : (L badC).contains y
            · rfl
            · have := badC_ascii y (by simpa using hcc); omega
          rcases (by omega : i < pos ∨ i = pos ∨ pos < i) with h | rfl | h
          · exact HALL.out x (List.mem_of_getElem? (i := i) (by rw [List.getElem?_take, if_pos h, List.getElem?_eq_getElem hi2.2, e]))
          · rw [← e]; rw [hb]; exact hhi b (by omega)
          · rw [← e]; exact hhi _ (dmid i (by simpa using hi2.2) h hi2.1))
        have Hit := Lib.hid hit
        clear dlo dhi dmid hit hbw hb hb2
        simp only at hd hdle hit2 hbw2 hnx dw dle
        have bsz : (w.heap.size : Nat) ≤ (wr.heap.size : Nat) := by omega
        go_wp2_with (go_at_call 93; refine (HHi.out r _ (by omega) (by omega)).mono ?_; rintro e w3 ⟨rfl, b3⟩)
        have hW := (Array.getElem?_eq_some_iff.1 hit2).1
        have hit3 := (b3.block w.heap.size hW).trans hit2
        have hbw3 := hbw2.trans (b3.mono (Nat.le_of_lt hW))
        go_roundw
        case rel => exact ⟨pos + dd, by omega, HA.out, hit3, hbw3⟩
        case measure => simp only [World.iterPos, hit3, Hit.out]; omega
    · have hnx : ∀ ty, (Instr.next (.pointer (some ⟨w.heap.size, 0, none⟩)) true ty).run Tryz.prog wr = _ := fun ty => Lib.run_next_end_at wr w.heap.size s pos ty hit hp
      have hpe : pos = s.size := by omega
      have hA : (L s).all (fun b => !(L badC).contains b) = true := List.all_eq_true.2 (by
        have := HALL.out
        rw [List.take_of_length_le (by simp; omega)] at this
        intro x hx
        rw [this x hx]; rfl)
      by_cases h0 : s.size = 0
      · have hz := bytes_none h0
        subst hz
        clear hA
        go_wp2_with fail
        go_ret
        exact ⟨rfl, hbw⟩
      · obtain ⟨t1, t2, t3⟩ := bytes_some h0
        have HR : Hid (labelT (L s) = decide ((s.size : Int) ≤ 40)) := Lib.hid (by
          unfold labelT
          rw [hA, Bool.and_true]
          have hne : (L s).isEmpty = false := by
            cases h : L s with
            | nil => exact absurd (by have := congrArg List.length h; simpa using this) h0
            | cons => rfl
          rw [hne, length_L]
          by_cases h20 : s.size ≤ 40
          · rw [decide_eq_true h20, decide_eq_true (by omega : (s.size : Int) ≤ 40)]; rfl
          · rw [decide_eq_false h20, decide_eq_false (by omega : ¬ (s.size : Int) ≤ 40)]; rfl)
        clear hA hpe
        go_wp2_with fail
        go_ret
        rw [HR.out]
        exact ⟨rfl, hbw⟩
end Go.Proofs.YtgdnphmannbpgaaGreatDoor
/-
  frame.opens, frame.shuts: their contracts.
-/
namespace Go.Proofs.YtgdnphmannbpgaaGreatDoor
open Go.RowKit

def openL : List UInt8 := [58, 58, 58, 123]
/-- the label of a line that opens a division -/
def opensT (l : List UInt8) : List UInt8 × Bool :=
  if Lib.hasPrefix (Lib.trimRightB l 32) openL then
    (Lib.trimSuffix ((Lib.trimRightB l 32).drop 4) [125], Lib.hasSuffix ((Lib.trimRightB l 32).drop 4) [125] && labelT (Lib.trimSuffix ((Lib.trimRightB l 32).drop 4) [125]))
  else ([], false)
def shutsT (l : List UInt8) : Bool := decide (Lib.trimRightB l 32 = [58, 58, 58])

theorem trimR_le (l : List UInt8) : (Lib.trimRightB l 32).length ≤ l.length := by
  unfold Lib.trimRightB
  have := (List.dropWhile_sublist (fun x => x == (32 : UInt8)) (l := l.reverse)).length_le
  simpa using this
theorem trimSuf_le (l p : List UInt8) : (Lib.trimSuffix l p).length ≤ l.length := by
  unfold Lib.trimSuffix
  split
  · simp
  · exact Nat.le_refl _

set_option maxHeartbeats 1000000 in
set_option maxRecDepth 100000 in
theorem opens_any (s : ByteArray) (w : World) (hs : s.size ≤ 9223372036854775807) :
    Calls Tryz.prog 58 #[.string s] w fun e w' => e = .returned (.tuple #[.string (S (opensT (L s)).1), .bool (opensT (L s)).2]) ∧ Below w.heap.size w w' := by
  have hT := trimR_le (L s)
  rw [length_L] at hT
  have h1 : Hid (∀ w, Calls Tryz.prog 68 #[.string s, .string ⟨#[32]⟩] w fun e w' => e = .returned (.string (S (Lib.trimRightB (L s) 32))) ∧ w = w') := Lib.hid fun w => trimRight1_any s 32 (by decide) w hs
  unfold opensT
  generalize Lib.trimRightB (L s) 32 = t at *
  have h2 : Hid (∀ w, Calls Tryz.prog 79 #[.string (S t), .string ⟨#[58, 58, 58, 123]⟩] w fun e w' => e = .returned (.tuple #[.string (S (Lib.trimPrefix t openL)), .bool (Lib.hasPrefix t openL)]) ∧ w' = w) := Lib.hid fun w => Tryz.strings_CutPrefix (S t) ⟨#[58, 58, 58, 123]⟩ w
  cases hp : Lib.hasPrefix t openL
  · rw [hp] at h2
    go_enter Tryz.func58, Tryz.ntmps58
    go_wp2_with fail
    refine (h1.out _).mono ?_
    rintro e w1 ⟨rfl, rfl⟩
    go_wp2_with fail
    refine (h2.out _).mono ?_
    rintro e w1 ⟨rfl, rfl⟩
    go_wp2_with fail
    go_ret2
    exact ⟨rfl, Below.refl _ _⟩
  · have htp : Lib.trimPrefix t openL = t.drop 4 := by unfold Lib.trimPrefix; rw [hp]; rfl
    rw [hp, htp] at h2
    rw [if_pos rfl]
    have hd : (t.drop 4).length ≤ t.length := by simp
    generalize t.drop 4 = r at *
    have h3 : Hid (∀ w, Calls Tryz.prog 67 #[.string (S r), .string ⟨#[125]⟩] w fun e w' => e = .returned (.tuple #[.string (S (Lib.trimSuffix r [125])), .bool (Lib.hasSuffix r [125])]) ∧ w' = w) := Lib.hid fun w => Tryz.strings_CutSuffix (S r) ⟨#[125]⟩ w (by simp [S]; omega)
    have hq := trimSuf_le r [125]
    generalize Lib.trimSuffix r [125] = q at *
    have h4 : Hid (∀ w, Calls Tryz.prog 70 #[.string (S q)] w fun e w' => e = .returned (.bool (labelT q)) ∧ Below w.heap.size w w') := Lib.hid fun w => by
      have := label_any (S q) w (by simp [S]; omega)
      rwa [L_S] at this
    cases hs2 : Lib.hasSuffix r [125]
    · rw [hs2] at h3
      go_enter Tryz.func58, Tryz.ntmps58
      go_wp2_with fail
      refine (h1.out _).mono ?_
      rintro e w1 ⟨rfl, rfl⟩
      go_wp2_with fail
      refine (h2.out _).mono ?_
      rintro e w1 ⟨rfl, rfl⟩
      go_wp2_with fail
      refine (h3.out _).mono ?_
      rintro e w1 ⟨rfl, rfl⟩
      go_wp2_with fail
      go_ret2
      exact ⟨rfl, Below.refl _ _⟩
    · rw [hs2] at h3
      rw [Bool.true_and]
      go_enter Tryz.func58, Tryz.ntmps58
      go_wp2_with fail
      refine (h1.out _).mono ?_
      rintro e w1 ⟨rfl, rfl⟩
      go_wp2_with fail
      refine (h2.out _).mono ?_
      rintro e w1 ⟨rfl, rfl⟩
      go_wp2_with fail
      refine (h3.out _).mono ?_
      rintro e w1 ⟨rfl, rfl⟩
      go_wp2_with fail
      refine (h4.out _).mono ?_
      rintro e w1 ⟨rfl, b1⟩
      go_wp2_with fail
      go_ret2
      exact ⟨rfl, b1⟩

set_option maxHeartbeats 1000000 in
set_option maxRecDepth 100000 in
theorem shuts_any (s : ByteArray) (w : World) (hs : s.size ≤ 9223372036854775807) :
    Calls Tryz.prog 59 #[.string s] w fun e w' => e = .returned (.bool (shutsT (L s))) ∧ Below w.heap.size w w' := by
  have h1 : Hid (∀ w, Calls Tryz.prog 68 #[.string s, .string ⟨#[32]⟩] w fun e w' => e = .returned (.string (S (Lib.trimRightB (L s) 32))) ∧ w = w') := Lib.hid fun w => trimRight1_any s 32 (by decide) w hs
  unfold shutsT
  generalize Lib.trimRightB (L s) 32 = t at *
  by_cases ht : t = [58, 58, 58]
  · subst ht
    go_enter Tryz.func59, Tryz.ntmps59
    go_wp2_with fail
    refine (h1.out _).mono ?_
    rintro e w1 ⟨rfl, rfl⟩
    rw [show S [58, 58, 58] = (⟨#[58, 58, 58]⟩ : ByteArray) from rfl]
    go_wp2_with fail
    go_ret
    exact ⟨rfl, Below.refl _ _⟩
  · rw [decide_eq_false ht]
    have hne : ¬ S t = (⟨#[58, 58, 58]⟩ : ByteArray) := fun h => ht (by have := congrArg L h; rwa [L_S] at this)
    obtain ⟨t1, t2, t3⟩ := bytes_ne hne
    rw [show (⟨#[58, 58, 58]⟩ : ByteArray).toList = [58, 58, 58] by rw [ByteArray.toList_eq]] at t2 t3
    generalize S t = st at *
    clear ht hne
    go_enter Tryz.func59, Tryz.ntmps59
    go_wp2_with fail
    refine (h1.out _).mono ?_
    rintro e w1 ⟨rfl, rfl⟩
    go_wp2_with fail
    go_ret
    exact ⟨rfl, Below.refl _ _⟩
end Go.Proofs.YtgdnphmannbpgaaGreatDoor
/-
  frame.Heading: its contract.
-/
namespace Go.Proofs.YtgdnphmannbpgaaGreatDoor
open Go.RowKit

/-- what may stand ahead of a heading's label -/
def signsOk (ahead : List UInt8) : Bool :=
  !(decide (3 < ahead.length - (Lib.trimLeftB ahead 32).length) || decide ((Lib.trimLeftB ahead 32).length - (Lib.trimLeftB (Lib.trimLeftB ahead 32) 35).length < 1) ||
    decide (6 < (Lib.trimLeftB ahead 32).length - (Lib.trimLeftB (Lib.trimLeftB ahead 32) 35).length) || !Lib.hasPrefix (Lib.trimLeftB (Lib.trimLeftB ahead 32) 35) [32])
/-- a labelled heading: what stands ahead of the label, and the label -/
def headedT (l : List UInt8) : Option (List UInt8 × List UInt8) :=
  if Lib.hasSuffix (Lib.trimRightB l 32) [125] then
    if 0 ≤ Lib.lastIndex (Lib.trimSuffix (Lib.trimRightB l 32) [125]) [123, 61] then
      if labelT ((Lib.trimSuffix (Lib.trimRightB l 32) [125]).drop ((Lib.lastIndex (Lib.trimSuffix (Lib.trimRightB l 32) [125]) [123, 61]).toNat + 2)) then
        if signsOk ((Lib.trimSuffix (Lib.trimRightB l 32) [125]).take (Lib.lastIndex (Lib.trimSuffix (Lib.trimRightB l 32) [125]) [123, 61]).toNat) then
          some ((Lib.trimSuffix (Lib.trimRightB l 32) [125]).take (Lib.lastIndex (Lib.trimSuffix (Lib.trimRightB l 32) [125]) [123, 61]).toNat, (Lib.trimSuffix (Lib.trimRightB l 32) [125]).drop ((Lib.lastIndex (Lib.trimSuffix (Lib.trimRightB l 32) [125]) [123, 61]).toNat + 2))
        else none
      else none
    else none
  else none
def headedV : Option (List UInt8 × List UInt8) → Value
  | none => .tuple #[.string ⟨#[]⟩, .string ⟨#[]⟩, .bool false]
  | some (a, t) => .tuple #[.string (S a), .string (S t), .bool true]

theorem lastIndex_room (s : List UInt8) (h : 0 ≤ Lib.lastIndex s [123, 61]) : (Lib.lastIndex s [123, 61]).toNat + 2 ≤ s.length := by
  unfold Lib.lastIndex at h ⊢
  split at h
  · rename_i h2
    rw [if_pos h2]
    rcases Lib.lastOcc_spec s [123, 61] (s.length - ([123, 61] : List UInt8).length + 1) with ⟨h3, _⟩ | ⟨i, hi, h3, h4, _⟩
    · rw [h3] at h; omega
    · rw [h3]
      rcases Lib.occAt_room h4 with h5 | h5
      · simpa using h5
      · cases h5
  · omega
theorem trimL_le (l : List UInt8) (c : UInt8) : (Lib.trimLeftB l c).length ≤ l.length := (List.dropWhile_sublist _).length_le

set_option maxHeartbeats 1500000 in
set_option maxRecDepth 100000 in
theorem heading_any (s : ByteArray) (w : World) (hs : s.size ≤ 1048576) :
    Calls Tryz.prog 35 #[.string s] w fun e w' => e = .returned (headedV (headedT (L s))) ∧ Below w.heap.size w w' := by
  obtain ⟨V, hV⟩ : ∃ V, headedT (L s) = V := ⟨_, rfl⟩
  rw [hV]
  unfold headedT at hV
  have hT := trimR_le (L s)
  rw [length_L] at hT
  have h1 : Hid (∀ w, Calls Tryz.prog 68 #[.string s, .string ⟨#[32]⟩] w fun e w' => e = .returned (.string (S (Lib.trimRightB (L s) 32))) ∧ w = w') := Lib.hid fun w => trimRight1_any s 32 (by decide) w (by omega)
  generalize Lib.trimRightB (L s) 32 = t at *
  have h2 : Hid (∀ w, Calls Tryz.prog 67 #[.string (S t), .string ⟨#[125]⟩] w fun e w' => e = .returned (.tuple #[.string (S (Lib.trimSuffix t [125])), .bool (Lib.hasSuffix t [125])]) ∧ w' = w) := Lib.hid fun w => Tryz.strings_CutSuffix (S t) ⟨#[125]⟩ w (by simp [S]; omega)
  have hq := trimSuf_le t [125]
  cases hsu : Lib.hasSuffix t [125]
  · rw [hsu] at h2 hV
    have HV : Hid (V = none) := Lib.hid (by rw [← hV]; rfl)
    clear hV hsu hq
    go_enter Tryz.func35, Tryz.ntmps35
    go_wp2_with fail
    refine (h1.out _).mono ?_
    rintro e w1 ⟨rfl, rfl⟩
    go_wp2_with fail
    refine (h2.out _).mono ?_
    rintro e w1 ⟨rfl, rfl⟩
    go_wp2_with fail
    go_ret3
    rw [HV.out]
    exact ⟨rfl, Below.refl _ _⟩
  · rw [hsu] at h2 hV
    rw [if_pos rfl] at hV
    generalize Lib.trimSuffix t [125] = q at *
    obtain ⟨R, hR⟩ : ∃ R, S q = R := ⟨_, rfl⟩
    have hLR : L R = q := by rw [← hR, L_S]
    rw [hR] at h2
    subst hLR
    clear hR hsu
    rw [length_L] at hq
    have h3 : Hid (∀ w, Calls Tryz.prog 69 #[.string R, .string ⟨#[123, 61]⟩] w fun e w' => e = .returned (.int .i64 (Lib.lastIndex (L R) [123, 61])) ∧ w' = w) := Lib.hid fun w => Tryz.strings_LastIndex R ⟨#[123, 61]⟩ (by omega) w
    have hroom := lastIndex_room (L R)
    rw [length_L] at hroom
    generalize Lib.lastIndex (L R) [123, 61] = K at *
    by_cases hK : 0 ≤ K
    · rw [if_pos hK] at hV
      have hroom := hroom hK
      obtain ⟨K, rfl⟩ := Int.eq_ofNat_of_zero_le hK
      simp only [Int.toNat_natCast] at hV hroom
      have e1 : (L R).drop (K + 2) = L (R.extract (K + 2) R.size) := by rw [L_extract, ← length_L, List.take_length]
      have e2 : (L R).take K = L (R.extract 0 K) := by rw [L_extract, List.drop_zero]
      rw [e1, e2] at hV
      have h4 : Hid (∀ w, Calls Tryz.prog 70 #[.string (R.extract (K + 2) R.size)] w fun e w' => e = .returned (.bool (labelT (L (R.extract (K + 2) R.size)))) ∧ Below w.heap.size w w') := Lib.hid fun w => label_any _ w (by rw [ByteArray.size_extract]; omega)
      have x1 : (0 : Int) ≤ (K : Int) + 2 := by omega
      have x2 : (K : Int) + 2 ≤ (R.size : Int) := by omega
      have x3 : ((K : Int) + 2).toNat = K + 2 := by omega
      have x4 : (K : Int) ≤ (R.size : Int) := by omega
      clear e1 e2
      cases hlb : labelT (L (R.extract (K + 2) R.size))
      · rw [hlb] at h4 hV
        have HV : Hid (V = none) := Lib.hid (by rw [← hV]; rfl)
        clear hV hlb
        go_enter Tryz.func35, Tryz.ntmps35
        go_wp2_with fail
        refine (h1.out _).mono ?_
        rintro e w1 ⟨rfl, rfl⟩
        go_wp2_with fail
        refine (h2.out _).mono ?_
        rintro e w1 ⟨rfl, rfl⟩
        go_wp2_with fail
        refine (h3.out _).mono ?_
        rintro e w1 ⟨rfl, rfl⟩
        go_wp2_with fail
        refine (h4.out _).mono ?_
        rintro e w2 ⟨rfl, b2⟩
        go_wp2_with fail
        all_goals
          go_ret3
          rw [HV.out]
          exact ⟨rfl, b2⟩
      · rw [hlb] at h4 hV
        rw [if_pos rfl] at hV
        have hu : (R.extract 0 K).size = K := by rw [ByteArray.size_extract]; omega
        have hlen : (L (R.extract 0 K)).length = K := by rw [length_L, hu]
        generalize hlbe : R.extract (K + 2) R.size = lb at *
        generalize hue : R.extract 0 K = u at *
        have hx := trimL_le (L u) 32
        have h5 : Hid (∀ w, Calls Tryz.prog 71 #[.string u, .string ⟨#[32]⟩] w fun e w' => e = .returned (.string (S (Lib.trimLeftB (L u) 32))) ∧ w' = w) := Lib.hid fun w => Tryz.strings_TrimLeft_one u 32 (by decide) w
        have hsg : signsOk (L u) = signsOk (L u) := rfl
        conv at hsg => rhs; unfold signsOk
        generalize Lib.trimLeftB (L u) 32 = x at *
        have hy := trimL_le x 35
        have h6 : Hid (∀ w, Calls Tryz.prog 71 #[.string (S x), .string ⟨#[35]⟩] w fun e w' => e = .returned (.string (S (Lib.trimLeftB x 35))) ∧ w' = w) := Lib.hid fun w => Tryz.strings_TrimLeft_one (S x) 35 (by decide) w
        generalize Lib.trimLeftB x 35 = y at *
        have h7 : Hid (∀ w, Calls Tryz.prog 72 #[.string (S y), .string ⟨#[32]⟩] w fun e w' => e = .returned (.bool (Lib.hasPrefix y [32])) ∧ w' = w) := Lib.hid fun w => Tryz.strings_HasPrefix (S y) ⟨#[32]⟩ w
        have zx : (S x).size = x.length := by simp [S]
        have zy : (S y).size = y.length := by simp [S]
        rw [hlen] at hsg hx
        clear hlb hlen
        by_cases hA : 3 < K - x.length
        · rw [decide_eq_true hA] at hsg
          simp only [Bool.true_or, Bool.not_true] at hsg
          have dA : decide ((3 : Int) < (K : Int) - (x.length : Int)) = true := decide_eq_true (by omega)
          have HV : Hid (V = none) := Lib.hid (by rw [← hV, hsg]; rfl)
          clear hV hsg
          go_enter Tryz.func35, Tryz.ntmps35
          go_wp2_with fail
          refine (h1.out _).mono ?_
          rintro e w1 ⟨rfl, rfl⟩
          go_wp2_with fail
          refine (h2.out _).mono ?_
          rintro e w1 ⟨rfl, rfl⟩
          go_wp2_with fail
          refine (h3.out _).mono ?_
          rintro e w1 ⟨rfl, rfl⟩
          go_wp2_with fail
          refine (h4.out _).mono ?_
          rintro e w2 ⟨rfl, b2⟩
          go_wp2_with fail
          refine (h5.out _).mono ?_
          rintro e w3 ⟨rfl, rfl⟩
          go_wp2_with fail
          refine (h6.out _).mono ?_
          rintro e w3 ⟨rfl, rfl⟩
          go_wp2_with fail
          all_goals
            go_ret3
            rw [HV.out]
            exact ⟨rfl, b2⟩
        · rw [decide_eq_false hA, Bool.false_or] at hsg
          have dA : decide ((3 : Int) < (K : Int) - (x.length : Int)) = false := decide_eq_false (by omega)
          by_cases hB : x.length - y.length < 1
          · rw [decide_eq_true hB] at hsg
            simp only [Bool.true_or, Bool.not_true] at hsg
            have dB : decide ((x.length : Int) - (y.length : Int) < 1) = true := decide_eq_true (by omega)
            have HV : Hid (V = none) := Lib.hid (by rw [← hV, hsg]; rfl)
            clear hV hsg
            go_enter Tryz.func35, Tryz.ntmps35
            go_wp2_with fail
            refine (h1.out _).mono ?_
            rintro e w1 ⟨rfl, rfl⟩
            go_wp2_with fail
            refine (h2.out _).mono ?_
            rintro e w1 ⟨rfl, rfl⟩
            go_wp2_with fail
            refine (h3.out _).mono ?_
            rintro e w1 ⟨rfl, rfl⟩
            go_wp2_with fail
            refine (h4.out _).mono ?_
            rintro e w2 ⟨rfl, b2⟩
            go_wp2_with fail
            refine (h5.out _).mono ?_
            rintro e w3 ⟨rfl, rfl⟩
            go_wp2_with fail
            refine (h6.out _).mono ?_
            rintro e w3 ⟨rfl, rfl⟩
            go_wp2_with fail
            all_goals
              go_ret3
              rw [HV.out]
              exact ⟨rfl, b2⟩
          · rw [decide_eq_false hB, Bool.false_or] at hsg
            have dB : decide ((x.length : Int) - (y.length : Int) < 1) = false := decide_eq_false (by omega)
            by_cases hC : 6 < x.length - y.length
            · rw [decide_eq_true hC] at hsg
              simp only [Bool.true_or, Bool.not_true] at hsg
              have dC : decide ((6 : Int) < (x.length : Int) - (y.length : Int)) = true := decide_eq_true (by omega)
              have HV : Hid (V = none) := Lib.hid (by rw [← hV, hsg]; rfl)
              clear hV hsg
              go_enter Tryz.func35, Tryz.ntmps35
              go_wp2_with fail
              refine (h1.out _).mono ?_
              rintro e w1 ⟨rfl, rfl⟩
              go_wp2_with fail
              refine (h2.out _).mono ?_
              rintro e w1 ⟨rfl, rfl⟩
              go_wp2_with fail
              refine (h3.out _).mono ?_
              rintro e w1 ⟨rfl, rfl⟩
              go_wp2_with fail
              refine (h4.out _).mono ?_
              rintro e w2 ⟨rfl, b2⟩
              go_wp2_with fail
              refine (h5.out _).mono ?_
              rintro e w3 ⟨rfl, rfl⟩
              go_wp2_with fail
              refine (h6.out _).mono ?_
              rintro e w3 ⟨rfl, rfl⟩
              go_wp2_with fail
              all_goals
                go_ret3
                rw [HV.out]
                exact ⟨rfl, b2⟩
            · rw [decide_eq_false hC, Bool.false_or, Bool.not_not] at hsg
              have dC : decide ((6 : Int) < (x.length : Int) - (y.length : Int)) = false := decide_eq_false (by omega)
              cases hD : Lib.hasPrefix y [32]
              · rw [hD] at hsg h7
                have HV : Hid (V = none) := Lib.hid (by rw [← hV, hsg]; rfl)
                clear hV hsg hD
                go_enter Tryz.func35, Tryz.ntmps35
                go_wp2_with fail
                refine (h1.out _).mono ?_
                rintro e w1 ⟨rfl, rfl⟩
                go_wp2_with fail
                refine (h2.out _).mono ?_
                rintro e w1 ⟨rfl, rfl⟩
                go_wp2_with fail
                refine (h3.out _).mono ?_
                rintro e w1 ⟨rfl, rfl⟩
                go_wp2_with fail
                refine (h4.out _).mono ?_
                rintro e w2 ⟨rfl, b2⟩
                go_wp2_with fail
                refine (h5.out _).mono ?_
                rintro e w3 ⟨rfl, rfl⟩
                go_wp2_with fail
                refine (h6.out _).mono ?_
                rintro e w3 ⟨rfl, rfl⟩
                go_wp2_with (go_at_call 72; refine (h7.out _).mono ?_; rintro e w4 ⟨rfl, rfl⟩)
                all_goals
                  go_ret3
                  rw [HV.out]
                  exact ⟨rfl, b2⟩
              · rw [hD] at hsg h7
                have HV : Hid (V = some (L u, L lb)) := Lib.hid (by rw [← hV, hsg]; rfl)
                have HU : Hid (S (L u) = u ∧ S (L lb) = lb) := Lib.hid ⟨S_L _, S_L _⟩
                clear hV hsg hD
                go_enter Tryz.func35, Tryz.ntmps35
                go_wp2_with fail
                refine (h1.out _).mono ?_
                rintro e w1 ⟨rfl, rfl⟩
                go_wp2_with fail
                refine (h2.out _).mono ?_
                rintro e w1 ⟨rfl, rfl⟩
                go_wp2_with fail
                refine (h3.out _).mono ?_
                rintro e w1 ⟨rfl, rfl⟩
                go_wp2_with fail
                refine (h4.out _).mono ?_
                rintro e w2 ⟨rfl, b2⟩
                go_wp2_with fail
                refine (h5.out _).mono ?_
                rintro e w3 ⟨rfl, rfl⟩
                go_wp2_with fail
                refine (h6.out _).mono ?_
                rintro e w3 ⟨rfl, rfl⟩
                go_wp2_with (go_at_call 72; refine (h7.out _).mono ?_; rintro e w4 ⟨rfl, rfl⟩)
                go_quiet (fail)
                go_wp2_with fail
                go_ret3
                rw [HV.out]
                unfold headedV
                simp only
                rw [HU.out.1, HU.out.2]
                exact ⟨rfl, below_drewN' b2 _⟩
    · rw [if_neg hK] at hV
      have HV : Hid (V = none) := Lib.hid hV.symm
      have y1 : K < 0 := by omega
      clear hV hroom hK
      go_enter Tryz.func35, Tryz.ntmps35
      go_wp2_with fail
      refine (h1.out _).mono ?_
      rintro e w1 ⟨rfl, rfl⟩
      go_wp2_with fail
      refine (h2.out _).mono ?_
      rintro e w1 ⟨rfl, rfl⟩
      go_wp2_with fail
      refine (h3.out _).mono ?_
      rintro e w1 ⟨rfl, rfl⟩
      go_wp2_with fail
      all_goals
        go_ret3
        rw [HV.out]
        exact ⟨rfl, Below.refl _ _⟩
end Go.Proofs.YtgdnphmannbpgaaGreatDoor
/-
  Parts in memory: a row of parts, each with a row of lines of its own.
-/
namespace Go.Proofs.YtgdnphmannbpgaaGreatDoor
open Go.RowKit

/-- a part -/
structure PartT where
  depth : Int
  div : Bool
  label : ByteArray
  opn : Bool
  lines : List ByteArray
  deriving DecidableEq
/-- a part, and where its lines lie -/
structure PartR where
  t : PartT
  la : Option Addr
  lc : Nat
def PartR.cells (p : PartR) : List Value := [.int .i64 p.t.depth, .bool p.t.div, .string p.t.label, .bool p.t.opn, .slice p.la p.t.lines.length p.lc]
def partCells (ps : List PartR) : List Value := ps.flatMap PartR.cells
theorem part_len (p : PartR) : p.cells.length = 5 := rfl
theorem parts_length (ps : List PartR) : (partCells ps).length = ps.length * 5 := flat_length _ 5 part_len ps
theorem partCells_app (a b : List PartR) : partCells (a ++ b) = partCells a ++ partCells b := by simp [partCells]

/-- the rows of the parts' lines -/
def LinesIn (w : World) (base : Nat) (ps : List PartR) : Prop := (∀ p ∈ ps, Own w base 9 1 p.la p.t.lines.length p.lc (txCells p.t.lines)) ∧ ps.Pairwise (fun p q => Sep p.la q.la)
def Parts (w : World) (base : Nat) (A : Option Addr) (n c : Nat) (ps : List PartR) : Prop := Own w base 67 5 A n c (partCells ps) ∧ LinesIn w base ps

theorem Tryz.infoPart : (Tryz.prog.info? 67).map (fun i => (i.zero, i.size, i.bytes)) = some (some (.agg #[.int .i64 0, .bool false, .string ⟨#[]⟩, .bool false, .slice none 0 0]), 5, 64) := by kernel_rfl
theorem Tryz.elParts : Elem Tryz.prog 63 67 5 64 := Elem.mk' Tryz.underlying63 Tryz.infoPart rfl (by decide)
theorem Tryz.elInts : Elem Tryz.prog 81 3 1 8 := Elem.mk' (z := .int .i64 0) Tryz.underlying81 (by kernel_rfl) rfl (by decide)

theorem LinesIn.only {w w' : World} {base : Nat} {ps : List PartR} {B : Option Addr} (h : LinesIn w base ps) (ho : Only w w' B) (hs : ∀ p ∈ ps, Sep p.la B) : LinesIn w' base ps := ⟨fun p hp => (h.1 p hp).only ho (hs p hp), h.2⟩
theorem LinesIn.below {w w' : World} {base K : Nat} {ps : List PartR} (h : LinesIn w base ps) (hb : Below K w w') (hK : w.heap.size ≤ K) : LinesIn w' base ps := ⟨fun p hp => (h.1 p hp).below hb hK, h.2⟩
theorem LinesIn.alloc {w : World} {base : Nat} {ps : List PartR} (h : LinesIn w base ps) (o : Obj) : LinesIn (w.alloc o) base ps := ⟨fun p hp => (h.1 p hp).alloc o, h.2⟩
theorem Parts.nil (w : World) (base : Nat) : Parts w base none 0 0 [] := ⟨Own.nil _ _ _ _, by simp, .nil⟩
theorem Parts.len {w : World} {base n c : Nat} {A : Option Addr} {ps : List PartR} (h : Parts w base A n c ps) : ps.length = n := by have := h.1.len; rw [parts_length] at this; omega
theorem Parts.below {w w' : World} {base K n c : Nat} {A : Option Addr} {ps : List PartR} (h : Parts w base A n c ps) (hb : Below K w w') (hK : w.heap.size ≤ K) : Parts w' base A n c ps := ⟨h.1.below hb hK, h.2.below hb hK⟩
theorem Parts.alloc {w : World} {base n c : Nat} {A : Option Addr} {ps : List PartR} (h : Parts w base A n c ps) (o : Obj) : Parts (w.alloc o) base A n c ps := ⟨h.1.alloc o, h.2.alloc o⟩
theorem Parts.sep {w : World} {base n c : Nat} {A : Option Addr} {ps : List PartR} (h : Parts w base A n c ps) : ∀ p ∈ ps, Sep p.la A := fun p hp => (h.2.1 p hp).sep_ne h.1 (by decide)

/-- the world turned in another own row alone -/
theorem Parts.only {w w' : World} {base n c base' e' size' n' c' : Nat} {A B : Option Addr} {ps : List PartR} {ys : List Value} (h : Parts w base A n c ps) (hB : Own w base' e' size' B n' c' ys) (ho : Only w w' B)
    (h1 : 67 ≠ e') (h2 : 9 ≠ e') : Parts w' base A n c ps :=
  ⟨h.1.only ho (h.1.sep_ne hB h1), h.2.only ho (fun p hp => (h.2.1 p hp).sep_ne hB h2)⟩

/-- a part more: 'w': ahead of the append; its own lines' row lies already -/
theorem Parts.push {w w' : World} {base n c n' c' : Nat} {A A' : Option Addr} {ps : List PartR} {q : PartR} (h : Parts w base A n c ps) (hq : Own w base 9 1 q.la q.t.lines.length q.lc (txCells q.t.lines)) (hs : ∀ p ∈ ps, Sep p.la q.la)
    (ho : Only w w' A) (hr : Own w' base 67 5 A' n' c' (partCells ps ++ q.cells)) : Parts w' base A' n' c' (ps ++ [q]) := by
  refine ⟨by rw [partCells_app]; simpa [partCells] using hr, ?_, ?_⟩
  · intro p hp
    rcases List.mem_append.1 hp with hp | hp
    · exact (h.2.1 p hp).only ho (h.sep p hp)
    · rw [List.mem_singleton.1 hp]
      exact hq.only ho (hq.sep_ne h.1 (by decide))
  · rw [List.pairwise_append]
    exact ⟨h.2.2, List.pairwise_singleton _ _, fun p hp q' hq' => by rw [List.mem_singleton.1 hq']; exact hs p hp⟩

/-- the part at i, as the walk reads it -/
theorem Parts.cells_at {w : World} {base n c g : Nat} {ps : List PartR} (h : Parts w base (some ⟨g, 0, none⟩) n c ps) {i : Nat} {p : PartR} (hp : ps[i]? = some p) :
    w.cell? ⟨g, i * 5, none⟩ = some (.int .i64 p.t.depth) ∧ w.cell? ⟨g, i * 5 + 1, none⟩ = some (.bool p.t.div) ∧ w.cell? ⟨g, i * 5 + 2, none⟩ = some (.string p.t.label) ∧ w.cell? ⟨g, i * 5 + 3, none⟩ = some (.bool p.t.opn) ∧ w.cell? ⟨g, i * 5 + 4, none⟩ = some (.slice p.la p.t.lines.length p.lc) := by
  have k := fun j (hj : j < 5) => flat_get PartR.cells 5 part_len ps i j hj hp
  exact ⟨h.1.cell ((k 0 (by omega)).trans rfl), h.1.cell ((k 1 (by omega)).trans rfl), h.1.cell ((k 2 (by omega)).trans rfl), h.1.cell ((k 3 (by omega)).trans rfl), h.1.cell ((k 4 (by omega)).trans rfl)⟩

/-- a part is shut -/
theorem Parts.shut {w : World} {base n c g : Nat} {ps : List PartR} (h : Parts w base (some ⟨g, 0, none⟩) n c ps) {i : Nat} {p : PartR} (hp : ps[i]? = some p) (v : Bool) :
    Parts (w.setCell ⟨g, i * 5 + 3, none⟩ (.bool v)) base (some ⟨g, 0, none⟩) n c (ps.set i { p with t := { p.t with opn := v } }) := by
  have hst := h.1.stored (i * 5 + 3) (.bool v)
  have he : (partCells ps).set (i * 5 + 3) (.bool v) = partCells (ps.set i { p with t := { p.t with opn := v } }) := flat_set PartR.cells 5 part_len ps i 3 (by omega) hp rfl
  rw [he] at hst
  have hL := h.2.only (only_setCell w g (i * 5 + 3) (.bool v)) h.sep
  refine ⟨hst, ?_, ?_⟩
  · intro q hq
    rcases List.mem_or_eq_of_mem_set hq with hq | rfl
    · exact hL.1 q hq
    · exact hL.1 p (List.mem_of_getElem? hp)
  · have : (ps.set i { p with t := { p.t with opn := v } }).Pairwise (fun p q => Sep p.la q.la) := by
      have h2 := h.2.2
      rw [List.pairwise_iff_getElem] at h2 ⊢
      intro a b ha hb hab
      have ha' : a < ps.length := by simpa using ha
      have hb' : b < ps.length := by simpa using hb
      have := h2 a b ha' hb' hab
      obtain ⟨hi, hpe⟩ := List.getElem?_eq_some_iff.1 hp
      rw [List.getElem_set, List.getElem_set]
      split <;> split <;> simp_all
    exact this

/-- a line more in the last part: the append to its row, then the store -/
theorem Parts.line {w w1 : World} {base n c g c1 : Nat} {A1 : Option Addr} {ini : List PartR} {p : PartR} {s : ByteArray} (h : Parts w base (some ⟨g, 0, none⟩) n c (ini ++ [p]))
    (ho : Only w w1 p.la) (hm : Moved w p.la A1) (hr : Own w1 base 9 1 A1 (p.t.lines.length + 1) c1 (txCells p.t.lines ++ [.string s])) :
    Parts (w1.setCell ⟨g, ini.length * 5 + 4, none⟩ (.slice A1 (p.t.lines.length + 1) c1)) base (some ⟨g, 0, none⟩) n c (ini ++ [⟨{ p.t with lines := p.t.lines ++ [s] }, A1, c1⟩]) := by
  have hsp := h.sep p (by simp)
  have hrow : Own w1 base 67 5 (some ⟨g, 0, none⟩) n c (partCells (ini ++ [p])) := h.1.only ho hsp.symm
  have hpw := h.2.2
  rw [List.pairwise_append] at hpw
  have hst := hrow.stored (ini.length * 5 + 4) (.slice A1 (p.t.lines.length + 1) c1)
  have he : (partCells (ini ++ [p])).set (ini.length * 5 + 4) (.slice A1 (p.t.lines.length + 1) c1) = partCells (ini ++ [⟨{ p.t with lines := p.t.lines ++ [s] }, A1, c1⟩]) := by
    have := flat_set PartR.cells 5 part_len (ini ++ [p]) ini.length 4 (by omega) (x := p) (x' := ⟨{ p.t with lines := p.t.lines ++ [s] }, A1, c1⟩) (v := .slice A1 (p.t.lines.length + 1) c1) (by simp) (by simp [PartR.cells])
    unfold partCells
    rw [this]
    simp
  rw [he] at hst
  have hlt : ∀ q ∈ ini ++ [p], ∀ a, q.la = some a → a.block < w.heap.size := fun q hq a ha => ((h.2.1 q hq).lt ha).2
  refine ⟨hst, ?_, ?_⟩
  · intro q hq
    rcases List.mem_append.1 hq with hq | hq
    · have h1 := (h.2.1 q (by simp [hq])).only ho (hpw.2.2 q hq p (by simp))
      exact h1.only (only_setCell w1 g _ _) (h.sep q (by simp [hq]))
    · rw [List.mem_singleton.1 hq]
      have h1 : Own w1 base 9 1 A1 (p.t.lines ++ [s]).length c1 (txCells (p.t.lines ++ [s])) := by simpa [txCells] using hr
      exact h1.only (only_setCell w1 g _ _) (h1.sep_ne hrow (by decide))
  · rw [List.pairwise_append]
    refine ⟨hpw.1, List.pairwise_singleton _ _, fun q hq q' hq' => ?_⟩
    rw [List.mem_singleton.1 hq']
    exact ((hpw.2.2 q hq p (by simp)).symm.moved hm (K := w.heap.size) (fun b hb => hlt q (by simp [hq]) b hb) (Nat.le_refl _)).symm
end Go.Proofs.YtgdnphmannbpgaaGreatDoor
