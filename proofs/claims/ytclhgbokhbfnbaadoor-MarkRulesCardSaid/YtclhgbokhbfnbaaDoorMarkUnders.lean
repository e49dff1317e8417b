/-
  bowdlerlaw8.MarkUnders: its walk: it answers true, and turns nothing that was there.
-/
import Derived.Test.YtclhgbokhbfnbaaDoorMarkHeadings
import Derived.OpenShut
import Derived.Laws.IdiomStrings
namespace Go.Proofs.YtclhgbokhbfnbaaDoor
open Go.RowKit
open Go.ChangeShapes Go.WideShapes

theorem byte_of {a : Int} (h : (Lit.int .u8 a).wf = true) : ∃ b : UInt8, a = (b.toNat : Int) := by
  have h2 := bounds_u8 h
  exact ⟨a.toNat.toUInt8, by simp; omega⟩
theorem convert_byte (b : UInt8) (w : World) : (convert 27 9 (.slice (some ⟨w.heap.size, 0, none⟩) 1 1)).run Tryd.prog (w.alloc (.cells #[.int .u8 (b.toNat : Int)] 5)) = .ok (.string (S [b])) (w.alloc (.cells #[.int .u8 (b.toNat : Int)] 5)) := by
  refine run_convert_bytes_back _ _ _ 5 _ 1 [b] Tryd.underlying27 Tryd.underlying5 Tryd.underlying9 (fun j hj => ?_)
  have : j = 0 := by simpa using hj
  subst this
  exact (Blk.new w 5 #[.int .u8 (b.toNat : Int)]).cell 0

set_option maxHeartbeats 4000000 in
set_option maxRecDepth 100000 in
theorem markUnders_walk (n m : Int) (dash : Bool) (oi : Int) (w : World) (_ : (Lit.int .i64 n).wf = true) (_ : (Lit.int .i64 m).wf = true) (hoi : (Lit.int .u8 oi).wf = true) :
    Calls Tryd.prog 6 #[.int .i64 n, .int .i64 m, .bool dash, .int .u8 oi] w fun e w' => e = .returned (.bool true) ∧ Below w.heap.size w w' := by
  obtain ⟨o, rfl⟩ := byte_of hoi
  by_cases hin : 1 ≤ n ∧ n ≤ 20 ∧ 0 ≤ m ∧ m ≤ 5
  · obtain ⟨h1, h2, h3, h4⟩ := hin
    obtain ⟨n, rfl⟩ := Int.eq_ofNat_of_zero_le (a := n) (by omega)
    obtain ⟨m, rfl⟩ := Int.eq_ofNat_of_zero_le (a := m) (by omega)
    obtain ⟨c, hc⟩ : ∃ c : UInt8, c = if dash then 45 else 61 := ⟨_, rfl⟩
    have hc2 : c = 61 ∨ c = 45 := by cases dash <;> simp_all
    have HCC := Lib.hid hc
    have HC2 := Lib.hid hc2
    clear hc hc2
    go_enter Tryd.func6, Tryd.ntmps6
    go_wp2_with fail
    refine (alive_any _).mono ?_
    rintro e w1 ⟨rfl, b1⟩
    have z1 := b1.size
    go_upto_if 34 with fail
    go_cut [9, 10] (fun s9 s10 wx => s9 = .int .u8 (c.toNat : Int) ∧ s10 = .int .i64 ((if c = 61 then 1 else 2 : Nat) : Int) ∧ wx = w1)
    case first =>
      have e1 := HCC.out
      cases dash
      all_goals
        simp only [if_true, if_false, Bool.false_eq_true] at e1
        subst e1
        go_wp2_with fail
        go_meet
        exact ⟨rfl, rfl, rfl⟩
    case rest =>
      obtain ⟨rfl, rfl, rfl⟩ := hcut
      generalize wc = w1 at *
      have HLV : Hid (underT (List.replicate n c ++ List.replicate m 32) = (if c = 61 then 1 else 2 : Nat)) := Lib.hid (under_row (by omega) HC2.out)
      generalize (if c = 61 then 1 else 2 : Nat) = lv at *
      go_wp2_with fail
      go_loopw [11, 12] (fun s11 s12 wr => ∃ k : Nat, k ≤ n ∧ s12 = .int .i64 k ∧ s11 = .string (S (List.replicate k c)) ∧ Below w.heap.size w wr) (fun _ s12 _ => n - (intOf s12).toNat)
      case atStart => exact ⟨0, Nat.zero_le _, rfl, rfl, b1⟩
      case round =>
        obtain ⟨k, hk, rfl, rfl, hbw⟩ := hrel
        by_cases hlt : k < n
        · have HR : Hid (S (List.replicate k c) ++ S [c] = S (List.replicate (k + 1) c)) := Lib.hid (rep_succ k c)
          have hsz : (S (List.replicate k c)).size ≤ 20 := by simp; omega
          have hcv := convert_byte c wr
          generalize hx : S (List.replicate k c) = x at *
          have HX := Lib.hid hx
          clear hx
          go_wp2_with fail
          go_roundw
          case rel => exact ⟨k + 1, by omega, by go_num, by rw [← HR.out], hbw.alloc hbw.size _⟩
          case measure => simp [intOf]; omega
        · have hkn : k = n := by omega
          subst hkn
          have hzw := hbw.size
          generalize wr = w2 at *
          obtain ⟨u, hu⟩ : ∃ u, S (List.replicate k c) = u := ⟨_, rfl⟩
          have hus : u.size ≤ 20 := by rw [← hu]; simp; omega
          have HUL : Hid (L u = List.replicate k c) := Lib.hid (by rw [← hu, L_S])
          have HU0 := Lib.hid (app_nil u)
          rw [hu]
          clear hu hlt
          have hc2 := HC2.out
          have hc32 : c ≠ 32 ∧ c ≠ 9 := by rcases hc2 with h | h <;> rw [h] <;> decide
          have HG1 : Hid (underT (L (u ++ ⟨#[32]⟩ ++ S [c])) = 0) := Lib.hid (by
            rw [L_append, L_append, HUL.out, L_S, L_lit, List.append_assoc]
            exact under_no [32] c (by omega) hc2 hc32 ⟨32, by simp, hc32.1.symm⟩)
          have HG2 : Hid (o ≠ c → o ≠ 32 → o ≠ 9 → underT (L (u ++ S [o])) = 0) := Lib.hid (fun ho h32 h9 => by
            rw [L_append, HUL.out, L_S]
            exact under_no [] o (by omega) hc2 ⟨h32, h9⟩ ⟨o, by simp, ho⟩)
          have HG3 : Hid (underT (L (u ++ S (List.replicate m 32))) = lv) := Lib.hid (by
            rw [L_append, HUL.out, L_S]; exact HLV.out)
          clear HLV HUL hc2 hc32
          go_wp2_with fail
          go_loop [13, 14] (fun s13 s14 => ∃ j : Nat, j ≤ m ∧ s14 = .int .i64 j ∧ s13 = .string (u ++ S (List.replicate j 32))) (fun _ s14 => m - (intOf s14).toNat)
          case atStart => exact ⟨0, Nat.zero_le _, rfl, by rw [List.replicate_zero, HU0.out]⟩
          case round =>
            obtain ⟨j, hj, rfl, rfl⟩ := hrel
            have hsz3 : (u ++ S (List.replicate j 32)).size ≤ 25 := by rw [ByteArray.size_append]; simp; omega
            by_cases hlt : j < m
            · have HR := Lib.hid (app_rep u j 32)
              generalize hx : u ++ S (List.replicate j 32) = x at *
              have HX := Lib.hid hx
              clear hx
              go_wp2_with fail
              go_round
              case rel => exact ⟨j + 1, by omega, by go_num, by rw [HR.out]⟩
              case measure => simp [intOf]; omega
            · have hjm : j = m := by omega
              subst hjm
              obtain ⟨x, hx⟩ : ∃ x, u ++ S (List.replicate j 32) = x := ⟨_, rfl⟩
              have hg3 := HG3.out
              rw [hx] at hg3 hsz3 ⊢
              clear HG3
              have HG3 := Lib.hid hg3
              clear hg3 hx hlt HU0
              go_wp2_with fail
              refine (under_any x _ (by omega)).mono ?_
              rintro e w3 ⟨rfl, b3⟩
              rw [HG3.out]
              have bb3 := hbw.trans (b3.mono hzw)
              have z3 := bb3.size
              clear hbw b3 hzw
              have hcv := convert_byte c w3
              have hs1 : (S [c]).size = 1 := rfl
              obtain ⟨cs, hcs⟩ : ∃ cs, S [c] = cs := ⟨_, rfl⟩
              have hg1 := HG1.out
              rw [hcs] at hg1 hs1 hcv
              clear HG1 hcs
              have HG1 := Lib.hid hg1
              clear hg1
              go_wp2_with fail
              refine (under_any _ _ (by simp [ByteArray.size_append, size_lit]; omega)).mono ?_
              rintro e w4 ⟨rfl, b4⟩
              rw [HG1.out]
              have bb4 := (bb3.alloc z3 _).trans (b4.mono (by simp; omega))
              have z4 := bb4.size
              clear bb3 b4 hcv HG1
              have hq : ((o.toNat : Int) == (c.toNat : Int)) = true ∨ (((o.toNat : Int) == (c.toNat : Int)) = false ∧ ((o.toNat : Int) == 32) = true) ∨ (((o.toNat : Int) == (c.toNat : Int)) = false ∧ ((o.toNat : Int) == 32) = false ∧ ((o.toNat : Int) == 9) = true) ∨
                  (((o.toNat : Int) == (c.toNat : Int)) = false ∧ ((o.toNat : Int) == 32) = false ∧ ((o.toNat : Int) == 9) = false ∧ o ≠ c ∧ o ≠ 32 ∧ o ≠ 9) := by
                by_cases q1 : o = c
                · exact .inl (by rw [q1]; simp)
                · have e1 : ((o.toNat : Int) == (c.toNat : Int)) = false := beq_eq_false_iff_ne.2 fun e => q1 (UInt8.toNat_inj.1 (by omega))
                  by_cases q2 : o = 32
                  · exact .inr (.inl ⟨e1, by rw [q2]; rfl⟩)
                  · have e2 : ((o.toNat : Int) == 32) = false := byte_ne (n := 32) (by decide) q2
                    by_cases q3 : o = 9
                    · exact .inr (.inr (.inl ⟨e1, e2, by rw [q3]; rfl⟩))
                    · exact .inr (.inr (.inr ⟨e1, e2, byte_ne (n := 9) (by decide) q3, q1, q2, q3⟩))
              rcases hq with q1 | ⟨q1, q2⟩ | ⟨q1, q2, q3⟩ | ⟨q1, q2, q3, q4, q5, q6⟩
              · go_wp2_with fail
                go_ret
                exact ⟨rfl, bb4⟩
              · go_wp2_with fail
                go_ret
                exact ⟨rfl, bb4⟩
              · go_wp2_with fail
                go_ret
                exact ⟨rfl, bb4⟩
              · have HG2' := Lib.hid (HG2.out q4 q5 q6)
                have hcv := convert_byte o w4
                have hs2 : (S [o]).size = 1 := rfl
                obtain ⟨cs2, hcs⟩ : ∃ cs, S [o] = cs := ⟨_, rfl⟩
                have hg2 := HG2'.out
                rw [hcs] at hg2 hs2 hcv
                clear HG2' hcs HG2 q4 q5 q6
                have HG2 := Lib.hid hg2
                clear hg2
                go_wp2_with fail
                refine (under_any _ _ (by simp [ByteArray.size_append]; omega)).mono ?_
                rintro e w5 ⟨rfl, b5⟩
                rw [HG2.out]
                have bb5 := (bb4.alloc z4 _).trans (b5.mono (by simp; omega))
                clear bb4 b5 hcv
                go_wp2_with fail
                go_ret
                exact ⟨rfl, bb5⟩
  · rcases (by omega : n < 1 ∨ (1 ≤ n ∧ 20 < n) ∨ (1 ≤ n ∧ n ≤ 20 ∧ m < 0) ∨ (1 ≤ n ∧ n ≤ 20 ∧ 0 ≤ m ∧ 5 < m)) with h | ⟨h1, h2⟩ | ⟨h1, h2, h3⟩ | ⟨h1, h2, h3, h4⟩
    all_goals
      clear hin
      go_enter Tryd.func6, Tryd.ntmps6
      go_wp2_with fail
      refine (alive_any _).mono ?_
      rintro e w1 ⟨rfl, b1⟩
      go_wp2_with fail
      go_ret
      exact ⟨rfl, b1⟩
end Go.Proofs.YtclhgbokhbfnbaaDoor
