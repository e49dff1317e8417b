/-
  strings.ContainsRune at a byte of 128 or more, on three ASCII bytes: none is found.
-/
import Derived.Test.YtclhgbokhbfnbaaDoorMark6
import Derived.WalkMore
namespace Go.Proofs.YtclhgbokhbfnbaaDoor
open Go.RowKit

theorem enc_fin : ∀ n : Nat, n < 256 → 128 ≤ n → (Utf8.encode (n : Int)).size = 2 ∧ 128 ≤ ((Utf8.encode (n : Int)).get! 1).toNat := by
  decide +kernel
theorem get_bang (E : ByteArray) (h : 1 < E.size) : E.get! 1 = E[1]'h := by
  simp [ByteArray.get!, getElem!_pos, h]
  rfl
theorem enc_hi (b : UInt8) (hb : 128 ≤ b.toNat) : ∃ E, Utf8.encode (b.toNat : Int) = E ∧ E.size = 2 ∧ ∃ h : 1 < E.size, 128 ≤ (E[1]'h).toNat := by
  obtain ⟨h1, h2⟩ := enc_fin b.toNat b.toNat_lt hb
  obtain ⟨E, hE⟩ : ∃ E, Utf8.encode (b.toNat : Int) = E := ⟨_, rfl⟩
  rw [hE] at h1 h2
  have h3 : 1 < E.size := by omega
  exact ⟨E, hE, h1, h3, by rw [← get_bang E h3]; exact h2⟩

set_option maxHeartbeats 1000000 in
set_option maxRecDepth 100000 in
theorem indexRune_hi (b d : UInt8) (cs : ByteArray) (w : World) (hb : 128 ≤ b.toNat) (h3 : cs.size = 3) (g0 : 1 < cs.size) (g1 : cs[1]'g0 = d) (hd : d.toNat < 128) (hA : ∀ x ∈ L cs, x.toNat < 128) :
    Calls Tryd.prog 32 #[.string cs, .int .i32 (b.toNat : Int)] w fun e w' => e = .returned (.int .i64 (-1)) ∧ Below w.heap.size w w' := by
  have hb2 : b.toNat < 256 := b.toNat_lt
  have q1 : decide ((b.toNat : Int) < 128) = false := decide_eq_false (by omega)
  have q2 : ((b.toNat : Int) == 65533) = false := beq_eq_false_iff_ne.2 (by omega)
  obtain ⟨E, hE, hEs, hE1, hE2⟩ := enc_hi b hb
  obtain ⟨y, hy⟩ : ∃ y, E[1]'hE1 = y := ⟨_, rfl⟩
  rw [hy] at hE2
  go_enter Tryd.func32, Tryd.ntmps32
  go_wp2_with fail
  refine (Tryd.utf8_ValidRune _ _).mono ?_
  rintro e w1 ⟨rfl, rfl⟩
  rw [show Lib.validRune (b.toNat : Int) = true from decide_eq_true (by omega)]
  go_wp2_with fail
  go_step3
  go_wp2_with fail
  refine wp_loop_rounds 1 ?_
  rw [rounds_succ]
  go_wp2_with fail
  go_step3
  go_wp2_with fail
  have q3 : ((d.toNat : Int) != (y.toNat : Int)) = true := by rw [bne_iff_ne]; omega
  have hm : Lib.indexByte (cs.extract 2 3).data.toList y = -1 := by
    have h1 := Lib.indexByte_ge (cs.extract 2 3).data.toList y
    have h2 := idx_mem (cs.extract 2 3).data.toList y
    have h4 : (cs.extract 2 3).data.toList.contains y = false := by
      cases hc : (cs.extract 2 3).data.toList.contains y with
      | false => rfl
      | true =>
        have hmem : y ∈ L (cs.extract 2 3) := List.contains_iff_mem.1 hc
        rw [L_extract] at hmem
        have := hA y (List.mem_of_mem_take (List.mem_of_mem_drop hmem))
        omega
    rw [h4] at h2
    have h5 := of_decide_eq_false h2
    omega
  have cidx : ∀ W, Calls Tryd.prog 47 #[.string (cs.extract 2 3), .int .u8 (y.toNat : Int)] W fun e w' => e = .returned (.int .i64 (-1)) ∧ w' = W := fun W => by
    refine (Tryd.strings_IndexByte (cs.extract 2 3) (y.toNat : Int) W).mono ?_
    rintro e w2 ⟨rfl, rfl⟩
    rw [show ((y.toNat : Int).toNat.toUInt8) = y by simp, hm]
    exact ⟨rfl, rfl⟩
  clear hm
  go_quiet (fail)
  have bb2 : Below w1.heap.size w1 (w1.drewN nq) := below_drewN' (Below.refl _ _) nq
  generalize w1.drewN nq = w2 at *
  go_wp2_with fail
  have hw2 : IntKind.i64.wrap 2 = 2 := IntWalk.i64_in _ (by omega)
  have hw3 : (2 : Int) ≤ (cs.size : Int) := by omega
  have hw4 : (2 : Int) ≤ 3 := by omega
  go_quiet ((go_at_call 47; exact Calls.quiet_of_same (cidx _)))
  have bb3 := below_drewN' bb2 nq
  go_wp2_with fail
  simp only [Exit.noGoto, Exit.inBlock, Exit.then]
  go_ret
  exact ⟨rfl, bb3⟩

set_option maxHeartbeats 1000000 in
set_option maxRecDepth 100000 in
theorem containsRune_hi (b d : UInt8) (cs : ByteArray) (w : World) (hb : 128 ≤ b.toNat) (h3 : cs.size = 3) (g0 : 1 < cs.size) (g1 : cs[1]'g0 = d) (hd : d.toNat < 128) (hA : ∀ x ∈ L cs, x.toNat < 128) :
    Calls Tryd.prog 21 #[.string cs, .int .i32 (b.toNat : Int)] w fun e w' => e = .returned (.bool false) ∧ Below w.heap.size w w' := by
  go_enter Tryd.func21, Tryd.ntmps21
  go_wp2_with fail
  refine (indexRune_hi b d cs _ hb h3 g0 g1 hd hA).mono ?_
  rintro e w1 ⟨rfl, b1⟩
  go_wp2_with fail
  go_ret
  exact ⟨rfl, b1⟩

theorem ruleT_one {o : UInt8} (h : 128 ≤ o.toNat) : restT [o] = [o] ∧ colT 0 [o] = 0 := by
  have hn : NoBlank [o] := by
    intro x hx
    simp at hx
    subst hx
    constructor <;> (rintro rfl; revert h; decide)
  exact ⟨restT_of_no hn, colT_no hn 0⟩

set_option maxHeartbeats 1000000 in
set_option maxRecDepth 100000 in
/-- a byte of 128 or more alone is no rule -/
theorem rule_hi (o : UInt8) (w : World) (ho : 128 ≤ o.toNat) :
    Calls Tryd.prog 12 #[.string (S [o])] w fun e w' => e = .returned (.bool false) ∧ Below w.heap.size w w' := by
  obtain ⟨h1, h2⟩ := ruleT_one ho
  have HX : Hid (S (restT (L (S [o]))) = S [o]) := Lib.hid (by rw [L_S, h1])
  have HK : Hid (colT 0 (L (S [o])) = 0) := Lib.hid (by rw [L_S, h2])
  clear h1 h2
  have hs : (S [o]).size = 1 := rfl
  have h0 : ∃ h : 0 < (S [o]).size, (S [o])[0]'h = o := ⟨(by show 0 < 1; decide), rfl⟩
  generalize S [o] = X at *
  obtain ⟨g0, g1⟩ := h0
  obtain ⟨t1, t2, t3⟩ := bytes_some (a := X) (by omega)
  have hsm : X.size ≤ 1048576 := by omega
  have ho2 : o.toNat < 256 := o.toNat_lt
  clear hs
  go_enter Tryd.func12, Tryd.ntmps12
  go_wp2_with fail
  refine (behind_any X _ hsm).mono ?_
  rintro e w1 ⟨rfl, b1⟩
  rw [HX.out, HK.out]
  go_wp2_with fail
  refine (containsRune_hi o 42 ⟨#[45, 42, 95]⟩ _ ho rfl (by decide) rfl (by decide) (by rw [L_lit]; intro x hx; simp at hx; rcases hx with rfl | rfl | rfl <;> decide)).mono ?_
  rintro e w2 ⟨rfl, b2⟩
  go_wp2_with fail
  go_ret
  exact ⟨rfl, b1.trans (b2.mono b1.size)⟩
end Go.Proofs.YtclhgbokhbfnbaaDoor
