/-
  strings.ContainsRune at any byte, on ASCII bytes.
-/
import Derived.Test.YtommebalgghdjaaDoorMark
import Derived.WalkMore
namespace Go.Proofs.YtommebalgghdjaaDoor
open Go.RowKit

theorem enc_finB : ∀ n : Nat, n < 256 → 128 ≤ n → (Utf8.encode (n : Int)).size = 2 ∧ 128 ≤ ((Utf8.encode (n : Int)).get! 1).toNat := by
  decide +kernel
theorem get_bangB (E : ByteArray) (h : 1 < E.size) : E.get! 1 = E[1]'h := by
  simp [ByteArray.get!, getElem!_pos, h]
  rfl
theorem enc_hiB (b : UInt8) (hb : 128 ≤ b.toNat) : ∃ E, Utf8.encode (b.toNat : Int) = E ∧ E.size = 2 ∧ ∃ h : 1 < E.size, 128 ≤ (E[1]'h).toNat := by
  obtain ⟨h1, h2⟩ := enc_finB b.toNat b.toNat_lt hb
  obtain ⟨E, hE⟩ : ∃ E, Utf8.encode (b.toNat : Int) = E := ⟨_, rfl⟩
  rw [hE] at h1 h2
  have h3 : 1 < E.size := by omega
  exact ⟨E, hE, h1, h3, by rw [← get_bangB E h3]; exact h2⟩

set_option maxHeartbeats 1000000 in
set_option maxRecDepth 100000 in
theorem indexRuneB2 (b d : UInt8) (cs : ByteArray) (w : World) (hb : 128 ≤ b.toNat) (h3 : cs.size = 2) (g0 : 1 < cs.size) (g1 : cs[1]'g0 = d) (hd : d.toNat < 128) (hA : ∀ x ∈ L cs, x.toNat < 128) :
    Calls Tryd.prog 84 #[.string cs, .int .i32 (b.toNat : Int)] w fun e w' => e = .returned (.int .i64 (-1)) ∧ Below w.heap.size w w' := by
  have hb2 : b.toNat < 256 := b.toNat_lt
  have q1 : decide ((b.toNat : Int) < 128) = false := decide_eq_false (by omega)
  have q2 : ((b.toNat : Int) == 65533) = false := beq_eq_false_iff_ne.2 (by omega)
  obtain ⟨E, hE, hEs, hE1, hE2⟩ := enc_hiB b hb
  obtain ⟨y, hy⟩ : ∃ y, E[1]'hE1 = y := ⟨_, rfl⟩
  rw [hy] at hE2
  go_enter Tryd.func84, Tryd.ntmps84
  go_wp2_with fail
  refine (Tryd.utf8_ValidRune _ _).mono ?_
  rintro e w1 ⟨rfl, rfl⟩
  rw [show Lib.validRune (b.toNat : Int) = true from decide_eq_true (by omega)]
  go_wp2_with fail
  go_step3
  go_wp2_with fail
  refine wp_loop_rounds 1 ?_
  rw [rounds_succ]
  go_wp2_with fail
  go_step3
  go_wp2_with fail
  have q3 : ((d.toNat : Int) != (y.toNat : Int)) = true := by rw [bne_iff_ne]; omega
  have hm : Lib.indexByte (cs.extract 2 2).data.toList y = -1 := by
    have h1 := Lib.indexByte_ge (cs.extract 2 2).data.toList y
    have h2 := idx_mem (cs.extract 2 2).data.toList y
    have h4 : (cs.extract 2 2).data.toList.contains y = false := by
      cases hc : (cs.extract 2 2).data.toList.contains y with
      | false => rfl
      | true =>
        have hmem : y ∈ L (cs.extract 2 2) := List.contains_iff_mem.1 hc
        rw [L_extract] at hmem
        have := hA y (List.mem_of_mem_take (List.mem_of_mem_drop hmem))
        omega
    rw [h4] at h2
    have h5 := of_decide_eq_false h2
    omega
  have cidx : ∀ W, Calls Tryd.prog 93 #[.string (cs.extract 2 2), .int .u8 (y.toNat : Int)] W fun e w' => e = .returned (.int .i64 (-1)) ∧ w' = W := fun W => by
    refine (Tryd.strings_IndexByte (cs.extract 2 2) (y.toNat : Int) W).mono ?_
    rintro e w2 ⟨rfl, rfl⟩
    rw [show ((y.toNat : Int).toNat.toUInt8) = y by simp, hm]
    exact ⟨rfl, rfl⟩
  have cidx0 : ∀ W, Calls Tryd.prog 93 #[.string ⟨#[]⟩, .int .u8 (y.toNat : Int)] W fun e w' => e = .returned (.int .i64 (-1)) ∧ w' = W := fun W => by
    refine (Tryd.strings_IndexByte ⟨#[]⟩ (y.toNat : Int) W).mono ?_
    rintro e w2 ⟨rfl, rfl⟩
    exact ⟨rfl, rfl⟩
  clear hm
  go_quiet (fail)
  have bb2 : Below w1.heap.size w1 (w1.drewN nq) := below_drewN' (Below.refl _ _) nq
  generalize w1.drewN nq = w2 at *
  go_wp2_with fail
  have hw2 : IntKind.i64.wrap 2 = 2 := IntWalk.i64_in _ (by omega)
  have hw3 : (2 : Int) ≤ (cs.size : Int) := by omega
  have hw4 : (2 : Int) ≤ 2 := by omega
  go_quiet ((go_at_call 93; first | exact Calls.quiet_of_same (cidx _) | exact Calls.quiet_of_same (cidx0 _)))
  have bb3 := below_drewN' bb2 nq
  go_wp2_with fail
  simp only [Exit.noGoto, Exit.inBlock, Exit.then]
  go_ret
  exact ⟨rfl, bb3⟩

set_option maxHeartbeats 1000000 in
set_option maxRecDepth 100000 in
theorem containsRuneB2 (b d : UInt8) (cs : ByteArray) (w : World) (hb : 128 ≤ b.toNat) (h3 : cs.size = 2) (g0 : 1 < cs.size) (g1 : cs[1]'g0 = d) (hd : d.toNat < 128) (hA : ∀ x ∈ L cs, x.toNat < 128) :
    Calls Tryd.prog 62 #[.string cs, .int .i32 (b.toNat : Int)] w fun e w' => e = .returned (.bool false) ∧ Below w.heap.size w w' := by
  go_enter Tryd.func62, Tryd.ntmps62
  go_wp2_with fail
  refine (indexRuneB2 b d cs _ hb h3 g0 g1 hd hA).mono ?_
  rintro e w1 ⟨rfl, b1⟩
  go_wp2_with fail
  go_ret
  exact ⟨rfl, b1⟩

set_option maxHeartbeats 1000000 in
set_option maxRecDepth 100000 in
theorem indexRuneB3 (b d : UInt8) (cs : ByteArray) (w : World) (hb : 128 ≤ b.toNat) (h3 : cs.size = 3) (g0 : 1 < cs.size) (g1 : cs[1]'g0 = d) (hd : d.toNat < 128) (hA : ∀ x ∈ L cs, x.toNat < 128) :
    Calls Tryd.prog 84 #[.string cs, .int .i32 (b.toNat : Int)] w fun e w' => e = .returned (.int .i64 (-1)) ∧ Below w.heap.size w w' := by
  have hb2 : b.toNat < 256 := b.toNat_lt
  have q1 : decide ((b.toNat : Int) < 128) = false := decide_eq_false (by omega)
  have q2 : ((b.toNat : Int) == 65533) = false := beq_eq_false_iff_ne.2 (by omega)
  obtain ⟨E, hE, hEs, hE1, hE2⟩ := enc_hiB b hb
  obtain ⟨y, hy⟩ : ∃ y, E[1]'hE1 = y := ⟨_, rfl⟩
  rw [hy] at hE2
  go_enter Tryd.func84, Tryd.ntmps84
  go_wp2_with fail
  refine (Tryd.utf8_ValidRune _ _).mono ?_
  rintro e w1 ⟨rfl, rfl⟩
  rw [show Lib.validRune (b.toNat : Int) = true from decide_eq_true (by omega)]
  go_wp2_with fail
  go_step3
  go_wp2_with fail
  refine wp_loop_rounds 1 ?_
  rw [rounds_succ]
  go_wp2_with fail
  go_step3
  go_wp2_with fail
  have q3 : ((d.toNat : Int) != (y.toNat : Int)) = true := by rw [bne_iff_ne]; omega
  have hm : Lib.indexByte (cs.extract 2 3).data.toList y = -1 := by
    have h1 := Lib.indexByte_ge (cs.extract 2 3).data.toList y
    have h2 := idx_mem (cs.extract 2 3).data.toList y
    have h4 : (cs.extract 2 3).data.toList.contains y = false := by
      cases hc : (cs.extract 2 3).data.toList.contains y with
      | false => rfl
      | true =>
        have hmem : y ∈ L (cs.extract 2 3) := List.contains_iff_mem.1 hc
        rw [L_extract] at hmem
        have := hA y (List.mem_of_mem_take (List.mem_of_mem_drop hmem))
        omega
    rw [h4] at h2
    have h5 := of_decide_eq_false h2
    omega
  have cidx : ∀ W, Calls Tryd.prog 93 #[.string (cs.extract 2 3), .int .u8 (y.toNat : Int)] W fun e w' => e = .returned (.int .i64 (-1)) ∧ w' = W := fun W => by
    refine (Tryd.strings_IndexByte (cs.extract 2 3) (y.toNat : Int) W).mono ?_
    rintro e w2 ⟨rfl, rfl⟩
    rw [show ((y.toNat : Int).toNat.toUInt8) = y by simp, hm]
    exact ⟨rfl, rfl⟩
  clear hm
  go_quiet (fail)
  have bb2 : Below w1.heap.size w1 (w1.drewN nq) := below_drewN' (Below.refl _ _) nq
  generalize w1.drewN nq = w2 at *
  go_wp2_with fail
  have hw2 : IntKind.i64.wrap 2 = 2 := IntWalk.i64_in _ (by omega)
  have hw3 : (2 : Int) ≤ (cs.size : Int) := by omega
  have hw4 : (2 : Int) ≤ 3 := by omega
  go_quiet ((go_at_call 93; exact Calls.quiet_of_same (cidx _)))
  have bb3 := below_drewN' bb2 nq
  go_wp2_with fail
  simp only [Exit.noGoto, Exit.inBlock, Exit.then]
  go_ret
  exact ⟨rfl, bb3⟩

set_option maxHeartbeats 1000000 in
set_option maxRecDepth 100000 in
theorem containsRuneB3 (b d : UInt8) (cs : ByteArray) (w : World) (hb : 128 ≤ b.toNat) (h3 : cs.size = 3) (g0 : 1 < cs.size) (g1 : cs[1]'g0 = d) (hd : d.toNat < 128) (hA : ∀ x ∈ L cs, x.toNat < 128) :
    Calls Tryd.prog 62 #[.string cs, .int .i32 (b.toNat : Int)] w fun e w' => e = .returned (.bool false) ∧ Below w.heap.size w w' := by
  go_enter Tryd.func62, Tryd.ntmps62
  go_wp2_with fail
  refine (indexRuneB3 b d cs _ hb h3 g0 g1 hd hA).mono ?_
  rintro e w1 ⟨rfl, b1⟩
  go_wp2_with fail
  go_ret
  exact ⟨rfl, b1⟩

/-- whatever the byte: whether it is one of two or more ASCII bytes -/
theorem containsB_any (cs : ByteArray) (b d : UInt8) (w : World) (h3 : cs.size = 2 ∨ cs.size = 3) (g0 : 1 < cs.size) (g1 : cs[1]'g0 = d) (hd : d.toNat < 128) (hA : ∀ x ∈ L cs, x.toNat < 128) :
    Calls Tryd.prog 62 #[.string cs, .int .i32 (b.toNat : Int)] w fun e w' => e = .returned (.bool ((L cs).contains b)) ∧ Below w.heap.size w w' := by
  by_cases hb : b.toNat < 128
  · refine (contains_any cs b w hb).mono ?_
    rintro e w1 ⟨rfl, rfl⟩
    exact ⟨rfl, Below.refl _ _⟩
  · have : (L cs).contains b = false := by
      cases hc : (L cs).contains b
      · rfl
      · have := hA b (List.contains_iff_mem.1 hc)
        omega
    rw [this]
    rcases h3 with h3 | h3
    · exact containsRuneB2 b d cs w (by omega) h3 g0 g1 hd hA
    · exact containsRuneB3 b d cs w (by omega) h3 g0 g1 hd hA
theorem ascii_blanks : ∀ x ∈ L ⟨#[32, 9]⟩, x.toNat < 128 := by rw [L_lit]; intro x hx; simp at hx; rcases hx with rfl | rfl <;> decide
theorem blanksB_any (b : UInt8) (w : World) : Calls Tryd.prog 62 #[.string ⟨#[32, 9]⟩, .int .i32 (b.toNat : Int)] w fun e w' => e = .returned (.bool ((L ⟨#[32, 9]⟩).contains b)) ∧ Below w.heap.size w w' :=
  containsB_any ⟨#[32, 9]⟩ b 9 w (.inl rfl) (by decide) rfl (by decide) ascii_blanks
theorem ascii_rules : ∀ x ∈ L ⟨#[45, 42, 95]⟩, x.toNat < 128 := by rw [L_lit]; intro x hx; simp at hx; rcases hx with rfl | rfl | rfl <;> decide
theorem rulesB_any (b : UInt8) (w : World) : Calls Tryd.prog 62 #[.string ⟨#[45, 42, 95]⟩, .int .i32 (b.toNat : Int)] w fun e w' => e = .returned (.bool ((L ⟨#[45, 42, 95]⟩).contains b)) ∧ Below w.heap.size w w' :=
  containsB_any ⟨#[45, 42, 95]⟩ b 42 w (.inr rfl) (by decide) rfl (by decide) ascii_rules
theorem ascii_items : ∀ x ∈ L ⟨#[45, 43, 42]⟩, x.toNat < 128 := by rw [L_lit]; intro x hx; simp at hx; rcases hx with rfl | rfl | rfl <;> decide
theorem itemsB_any (b : UInt8) (w : World) : Calls Tryd.prog 62 #[.string ⟨#[45, 43, 42]⟩, .int .i32 (b.toNat : Int)] w fun e w' => e = .returned (.bool ((L ⟨#[45, 43, 42]⟩).contains b)) ∧ Below w.heap.size w w' :=
  containsB_any ⟨#[45, 43, 42]⟩ b 43 w (.inr rfl) (by decide) rfl (by decide) ascii_items
theorem ascii_htmls : ∀ x ∈ L ⟨#[47, 33, 63]⟩, x.toNat < 128 := by rw [L_lit]; intro x hx; simp at hx; rcases hx with rfl | rfl | rfl <;> decide
theorem htmlsB_any (b : UInt8) (w : World) : Calls Tryd.prog 62 #[.string ⟨#[47, 33, 63]⟩, .int .i32 (b.toNat : Int)] w fun e w' => e = .returned (.bool ((L ⟨#[47, 33, 63]⟩).contains b)) ∧ Below w.heap.size w w' :=
  containsB_any ⟨#[47, 33, 63]⟩ b 33 w (.inr rfl) (by decide) rfl (by decide) ascii_htmls
end Go.Proofs.YtommebalgghdjaaDoor
