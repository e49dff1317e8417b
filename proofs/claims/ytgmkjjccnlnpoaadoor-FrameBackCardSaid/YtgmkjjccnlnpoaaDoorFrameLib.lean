/-
  The library's ContainsRune, TrimRight at the arguments that frame hands in: contracts.
-/
import Derived.Test.YtgmkjjccnlnpoaaDoorLine
import Derived.WalkMore
namespace Go.Proofs.YtgmkjjccnlnpoaaDoor
open Go.RowKit

theorem idx_mem (l : List UInt8) (c : UInt8) : decide (0 ≤ Lib.indexByte l c) = l.contains c := by
  induction l with
  | nil => rfl
  | cons b l ih =>
    have h1 := Lib.indexByte_ge l c
    rw [Lib.indexByte, List.contains_cons, ← ih]
    by_cases hb : b = c
    · subst hb; simp
    · have h2 : (b == c) = false := by simpa using hb
      have h3 : (c == b) = false := by simpa using fun e : c = b => hb e.symm
      rw [h2, h3]
      by_cases h4 : Lib.indexByte l c = -1
      · rw [h4]; rfl
      · have h5 : (Lib.indexByte l c == -1) = false := by simpa using h4
        rw [h5]
        simp only [Bool.false_eq_true, if_false, Bool.false_or]
        by_cases h6 : 0 ≤ Lib.indexByte l c
        · rw [decide_eq_true h6, decide_eq_true (by omega)]
        · omega
theorem contains_any (cs : ByteArray) (b : UInt8) (w : World) (hb : b.toNat < 128) :
    Calls Tryd.prog 39 #[.string cs, .int .i32 (b.toNat : Int)] w fun e w' => e = .returned (.bool ((L cs).contains b)) ∧ w = w' := by
  refine (Tryd.strings_ContainsRune_ascii cs (b.toNat : Int) w (by omega) (by omega)).mono ?_
  rintro e w1 ⟨rfl, rfl⟩
  rw [show ((b.toNat : Int).toNat.toUInt8) = b by simp, idx_mem]
  exact ⟨rfl, rfl⟩
theorem trimRight1_any (s : ByteArray) (c : UInt8) (hc : c.toNat < 128) (w : World) (hs : s.size ≤ 9223372036854775807) :
    Calls Tryd.prog 17 #[.string s, .string ⟨#[c]⟩] w fun e w' => e = .returned (.string (S (Lib.trimRightB (L s) c))) ∧ w = w' :=
  (Tryd.strings_TrimRight_one s c hc w hs).mono fun _ _ ⟨h, h'⟩ => ⟨h, h'.symm⟩

theorem enc_far (r : Nat) (hr : 128 ≤ r) : ∃ (E : ByteArray) (k : Nat), Utf8.encode (r : Int) = E ∧ (k = 1 ∨ k = 2 ∨ k = 3) ∧ E.size = k + 1 ∧ ∃ h : k < E.size, 128 ≤ (E[k]'h).toNat := by
  unfold Utf8.encode
  have hc : 128 ≤ (if Utf8.valid (r : Int) then (r : Int).toNat else Utf8.runeError) := by
    split
    · omega
    · decide
  generalize (if Utf8.valid (r : Int) then (r : Int).toNat else Utf8.runeError) = c at *
  simp only []
  rw [if_neg (by omega)]
  split
  · exact ⟨_, 1, rfl, .inl rfl, rfl, (by show 1 < 2; omega), by show 128 ≤ (UInt8.ofNat (128 + c % 64)).toNat; simp; omega⟩
  · split
    · exact ⟨_, 2, rfl, .inr (.inl rfl), rfl, (by show 2 < 3; omega), by show 128 ≤ (UInt8.ofNat (128 + c % 64)).toNat; simp; omega⟩
    · exact ⟨_, 3, rfl, .inr (.inr rfl), rfl, (by show 3 < 4; omega), by show 128 ≤ (UInt8.ofNat (128 + c % 64)).toNat; simp; omega⟩

set_option maxHeartbeats 1000000 in
set_option maxRecDepth 100000 in
theorem indexRune_far1 (r : Nat) (d : UInt8) (cs E : ByteArray) (w : World) (hr : 128 ≤ r) (hr2 : r ≠ 65533) (hv : Lib.validRune (r : Int) = true) (hE : Utf8.encode (r : Int) = E) (hEs : E.size = 2) (hE1 : 1 < E.size) (hE2 : 128 ≤ (E[1]'hE1).toNat)
    (h3 : cs.size = 6) (g0 : 1 < cs.size) (g1 : cs[1]'g0 = d) (hd : d.toNat < 128) (hA : ∀ x ∈ L cs, x.toNat < 128) :
    Calls Tryd.prog 56 #[.string cs, .int .i32 (r : Int)] w fun e w' => e = .returned (.int .i64 (-1)) ∧ Below w.heap.size w w' := by
  have q1 : decide ((r : Int) < 128) = false := decide_eq_false (by omega)
  have q2 : ((r : Int) == 65533) = false := beq_eq_false_iff_ne.2 (by omega)
  obtain ⟨y, hy⟩ : ∃ y, E[1]'hE1 = y := ⟨_, rfl⟩
  rw [hy] at hE2
  go_enter Tryd.func56, Tryd.ntmps56
  go_wp2_with fail
  refine (Tryd.utf8_ValidRune _ _).mono ?_
  rintro e w1 ⟨rfl, rfl⟩
  rw [hv]
  clear hv
  go_wp2_with fail
  go_step3
  go_wp2_with fail
  refine wp_loop_rounds 1 ?_
  rw [rounds_succ]
  go_wp2_with fail
  go_step3
  go_wp2_with fail
  have q3 : ((d.toNat : Int) != (y.toNat : Int)) = true := by rw [bne_iff_ne]; omega
  have hm : Lib.indexByte (cs.extract 2 6).data.toList y = -1 := by
    have h1 := Lib.indexByte_ge (cs.extract 2 6).data.toList y
    have h2 := idx_mem (cs.extract 2 6).data.toList y
    have h4 : (cs.extract 2 6).data.toList.contains y = false := by
      cases hc : (cs.extract 2 6).data.toList.contains y with
      | false => rfl
      | true =>
        have hmem : y ∈ L (cs.extract 2 6) := List.contains_iff_mem.1 hc
        rw [L_extract] at hmem
        have := hA y (List.mem_of_mem_take (List.mem_of_mem_drop hmem))
        omega
    rw [h4] at h2
    have h5 := of_decide_eq_false h2
    omega
  have cidx : ∀ W, Calls Tryd.prog 64 #[.string (cs.extract 2 6), .int .u8 (y.toNat : Int)] W fun e w' => e = .returned (.int .i64 (-1)) ∧ w' = W := fun W => by
    refine (Tryd.strings_IndexByte (cs.extract 2 6) (y.toNat : Int) W).mono ?_
    rintro e w2 ⟨rfl, rfl⟩
    rw [show ((y.toNat : Int).toNat.toUInt8) = y by simp, hm]
    exact ⟨rfl, rfl⟩
  clear hm
  go_quiet (fail)
  have bb2 : Below w1.heap.size w1 (w1.drewN nq) := below_drewN' (Below.refl _ _) nq
  generalize w1.drewN nq = w2 at *
  go_wp2_with fail
  have hw2 : IntKind.i64.wrap 2 = 2 := IntWalk.i64_in _ (by omega)
  have hw3 : (2 : Int) ≤ (cs.size : Int) := by omega
  have hw4 : (2 : Int) ≤ 6 := by omega
  go_quiet ((go_at_call 64; exact Calls.quiet_of_same (cidx _)))
  have bb3 := below_drewN' bb2 nq
  go_wp2_with fail
  simp only [Exit.noGoto, Exit.inBlock, Exit.then]
  go_ret
  exact ⟨rfl, bb3⟩

set_option maxHeartbeats 1000000 in
set_option maxRecDepth 100000 in
theorem indexRune_far2 (r : Nat) (d : UInt8) (cs E : ByteArray) (w : World) (hr : 128 ≤ r) (hr2 : r ≠ 65533) (hv : Lib.validRune (r : Int) = true) (hE : Utf8.encode (r : Int) = E) (hEs : E.size = 3) (hE1 : 2 < E.size) (hE2 : 128 ≤ (E[2]'hE1).toNat)
    (h3 : cs.size = 6) (g0 : 2 < cs.size) (g1 : cs[2]'g0 = d) (hd : d.toNat < 128) (hA : ∀ x ∈ L cs, x.toNat < 128) :
    Calls Tryd.prog 56 #[.string cs, .int .i32 (r : Int)] w fun e w' => e = .returned (.int .i64 (-1)) ∧ Below w.heap.size w w' := by
  have q1 : decide ((r : Int) < 128) = false := decide_eq_false (by omega)
  have q2 : ((r : Int) == 65533) = false := beq_eq_false_iff_ne.2 (by omega)
  obtain ⟨y, hy⟩ : ∃ y, E[2]'hE1 = y := ⟨_, rfl⟩
  rw [hy] at hE2
  go_enter Tryd.func56, Tryd.ntmps56
  go_wp2_with fail
  refine (Tryd.utf8_ValidRune _ _).mono ?_
  rintro e w1 ⟨rfl, rfl⟩
  rw [hv]
  clear hv
  go_wp2_with fail
  go_step3
  go_wp2_with fail
  refine wp_loop_rounds 1 ?_
  rw [rounds_succ]
  go_wp2_with fail
  go_step3
  go_wp2_with fail
  have q3 : ((d.toNat : Int) != (y.toNat : Int)) = true := by rw [bne_iff_ne]; omega
  have hm : Lib.indexByte (cs.extract 3 6).data.toList y = -1 := by
    have h1 := Lib.indexByte_ge (cs.extract 3 6).data.toList y
    have h2 := idx_mem (cs.extract 3 6).data.toList y
    have h4 : (cs.extract 3 6).data.toList.contains y = false := by
      cases hc : (cs.extract 3 6).data.toList.contains y with
      | false => rfl
      | true =>
        have hmem : y ∈ L (cs.extract 3 6) := List.contains_iff_mem.1 hc
        rw [L_extract] at hmem
        have := hA y (List.mem_of_mem_take (List.mem_of_mem_drop hmem))
        omega
    rw [h4] at h2
    have h5 := of_decide_eq_false h2
    omega
  have cidx : ∀ W, Calls Tryd.prog 64 #[.string (cs.extract 3 6), .int .u8 (y.toNat : Int)] W fun e w' => e = .returned (.int .i64 (-1)) ∧ w' = W := fun W => by
    refine (Tryd.strings_IndexByte (cs.extract 3 6) (y.toNat : Int) W).mono ?_
    rintro e w2 ⟨rfl, rfl⟩
    rw [show ((y.toNat : Int).toNat.toUInt8) = y by simp, hm]
    exact ⟨rfl, rfl⟩
  clear hm
  go_quiet (fail)
  have bb2 : Below w1.heap.size w1 (w1.drewN nq) := below_drewN' (Below.refl _ _) nq
  generalize w1.drewN nq = w2 at *
  go_wp2_with fail
  have hw2 : IntKind.i64.wrap 3 = 3 := IntWalk.i64_in _ (by omega)
  have hw3 : (3 : Int) ≤ (cs.size : Int) := by omega
  have hw4 : (3 : Int) ≤ 6 := by omega
  go_quiet ((go_at_call 64; exact Calls.quiet_of_same (cidx _)))
  have bb3 := below_drewN' bb2 nq
  go_wp2_with fail
  simp only [Exit.noGoto, Exit.inBlock, Exit.then]
  go_ret
  exact ⟨rfl, bb3⟩

set_option maxHeartbeats 1000000 in
set_option maxRecDepth 100000 in
theorem indexRune_far3 (r : Nat) (d : UInt8) (cs E : ByteArray) (w : World) (hr : 128 ≤ r) (hr2 : r ≠ 65533) (hv : Lib.validRune (r : Int) = true) (hE : Utf8.encode (r : Int) = E) (hEs : E.size = 4) (hE1 : 3 < E.size) (hE2 : 128 ≤ (E[3]'hE1).toNat)
    (h3 : cs.size = 6) (g0 : 3 < cs.size) (g1 : cs[3]'g0 = d) (hd : d.toNat < 128) (hA : ∀ x ∈ L cs, x.toNat < 128) :
    Calls Tryd.prog 56 #[.string cs, .int .i32 (r : Int)] w fun e w' => e = .returned (.int .i64 (-1)) ∧ Below w.heap.size w w' := by
  have q1 : decide ((r : Int) < 128) = false := decide_eq_false (by omega)
  have q2 : ((r : Int) == 65533) = false := beq_eq_false_iff_ne.2 (by omega)
  obtain ⟨y, hy⟩ : ∃ y, E[3]'hE1 = y := ⟨_, rfl⟩
  rw [hy] at hE2
  go_enter Tryd.func56, Tryd.ntmps56
  go_wp2_with fail
  refine (Tryd.utf8_ValidRune _ _).mono ?_
  rintro e w1 ⟨rfl, rfl⟩
  rw [hv]
  clear hv
  go_wp2_with fail
  go_step3
  go_wp2_with fail
  refine wp_loop_rounds 1 ?_
  rw [rounds_succ]
  go_wp2_with fail
  go_step3
  go_wp2_with fail
  have q3 : ((d.toNat : Int) != (y.toNat : Int)) = true := by rw [bne_iff_ne]; omega
  have hm : Lib.indexByte (cs.extract 4 6).data.toList y = -1 := by
    have h1 := Lib.indexByte_ge (cs.extract 4 6).data.toList y
    have h2 := idx_mem (cs.extract 4 6).data.toList y
    have h4 : (cs.extract 4 6).data.toList.contains y = false := by
      cases hc : (cs.extract 4 6).data.toList.contains y with
      | false => rfl
      | true =>
        have hmem : y ∈ L (cs.extract 4 6) := List.contains_iff_mem.1 hc
        rw [L_extract] at hmem
        have := hA y (List.mem_of_mem_take (List.mem_of_mem_drop hmem))
        omega
    rw [h4] at h2
    have h5 := of_decide_eq_false h2
    omega
  have cidx : ∀ W, Calls Tryd.prog 64 #[.string (cs.extract 4 6), .int .u8 (y.toNat : Int)] W fun e w' => e = .returned (.int .i64 (-1)) ∧ w' = W := fun W => by
    refine (Tryd.strings_IndexByte (cs.extract 4 6) (y.toNat : Int) W).mono ?_
    rintro e w2 ⟨rfl, rfl⟩
    rw [show ((y.toNat : Int).toNat.toUInt8) = y by simp, hm]
    exact ⟨rfl, rfl⟩
  clear hm
  go_quiet (fail)
  have bb2 : Below w1.heap.size w1 (w1.drewN nq) := below_drewN' (Below.refl _ _) nq
  generalize w1.drewN nq = w2 at *
  go_wp2_with fail
  have hw2 : IntKind.i64.wrap 4 = 4 := IntWalk.i64_in _ (by omega)
  have hw3 : (4 : Int) ≤ (cs.size : Int) := by omega
  have hw4 : (4 : Int) ≤ 6 := by omega
  go_quiet ((go_at_call 64; exact Calls.quiet_of_same (cidx _)))
  have bb3 := below_drewN' bb2 nq
  go_wp2_with fail
  simp only [Exit.noGoto, Exit.inBlock, Exit.then]
  go_ret
  exact ⟨rfl, bb3⟩


set_option maxHeartbeats 1000000 in
set_option maxRecDepth 100000 in
/-- the rune that stands for what is none, on ASCII -/
theorem indexRune_bad (cs : ByteArray) (w : World) (hcs : cs.size ≤ 100) (hA : ∀ x ∈ L cs, x.toNat < 128) :
    Calls Tryd.prog 56 #[.string cs, .int .i32 65533] w fun e w' => e = .returned (.int .i64 (-1)) ∧ Below w.heap.size w w' := by
  go_enter Tryd.func56, Tryd.ntmps56
  go_wp2_with fail
  go_loopw [5] (fun _ wr => ∃ pos : Nat, pos ≤ cs.size ∧ wr.heap[w.heap.size]? = some (.stringIter cs pos) ∧ Below w.heap.size w wr) (fun _ wr => cs.size - wr.iterPos w.heap.size)
  case atStart => exact ⟨0, by omega, World.iter_heap w cs 0, (Below.refl _ w).alloc (Nat.le_refl _) _⟩
  case round =>
    obtain ⟨pos, hps, hit, hbw⟩ := hrel
    have hsz : w.heap.size < wr.heap.size := (Array.getElem?_eq_some_iff.1 hit).1
    by_cases hp : pos < cs.size
    · have hnx : ∀ ty, (Instr.next (.pointer (some ⟨w.heap.size, 0, none⟩)) true ty).run Tryd.prog wr = _ := fun ty => Lib.run_next_any_at wr w.heap.size cs pos ty hit hp
      obtain ⟨⟨dlo, dhi⟩, dw, dle, dmid⟩ := decode_span cs pos hp
      have hpl : pos < (L cs).length := by simpa using hp
      have hit2 := Lib.iterAt_heap wr w.heap.size cs pos (pos + (Utf8.decode cs pos).2) hit
      have hbw2 := Lib.below_iterAt hbw (k := w.heap.size) (by omega) cs (pos + (Utf8.decode cs pos).2)
      have hlow := hA _ (List.getElem_mem hpl)
      have hd := dlo hlow
      generalize ((L cs)[pos]'hpl) = b at *
      rw [hd] at hnx hit2 hbw2
      have q1 : ((b.toNat : Int) == 65533) = false := beq_eq_false_iff_ne.2 (by omega)
      clear hd dlo dhi dmid dw dle hA
      have Hit := Lib.hid hit
      clear hit hbw
      go_wp2_with fail
      go_roundw
      case rel => exact ⟨pos + 1, by omega, hit2, hbw2⟩
      case measure => simp only [World.iterPos, hit2, Hit.out]; omega
    · have hnx : ∀ ty, (Instr.next (.pointer (some ⟨w.heap.size, 0, none⟩)) true ty).run Tryd.prog wr = _ := fun ty => Lib.run_next_end_at wr w.heap.size cs pos ty hit hp
      go_wp2_with fail
      go_ret
      exact ⟨rfl, hbw⟩
end Go.Proofs.YtgmkjjccnlnpoaaDoor
