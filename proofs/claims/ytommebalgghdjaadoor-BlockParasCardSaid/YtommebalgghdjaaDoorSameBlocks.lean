/-
  bowdlerbook.SameBlocks: its contract: whether two lists of blocks are alike.
-/
import Derived.Test.YtommebalgghdjaaDoorBlockRight
import Derived.Laws.StructEq
namespace Go.Proofs.YtommebalgghdjaaDoor
open Go.RowKit

theorem S_inj {a b : List UInt8} (h : S a = S b) : a = b := by
  have := congrArg L h
  simpa [L_S] using this

set_option maxHeartbeats 2000000 in
set_option maxRecDepth 100000 in
theorem sameBlocks_any (A A' : Option Addr) (n n' c c' K : Nat) (xs ys : List BlockT) (w : World) (ha : Reads w K 6 A n (blkCells xs)) (hb : Reads w K 6 A' n' (blkCells ys)) (hn : n ≤ 1099511627776) (hn' : n' ≤ 1099511627776) :
    Calls Tryd.prog 19 #[.slice A n c, .slice A' n' c'] w fun e w' => e = .returned (.bool (decide (xs = ys))) ∧ Below w.heap.size w w' := by
  have HL := Lib.hid (blks_reads_len ha)
  have HL' := Lib.hid (blks_reads_len hb)
  by_cases hnn : n = n'
  · subst hnn
    go_enter Tryd.func19, Tryd.ntmps19
    go_wp2_with fail
    go_loopw [5] (fun i wr => ∃ k m : Nat, k ≤ n ∧ i = .int .i64 k ∧ xs.take k = ys.take k ∧ wr = w.drewN m) (fun i _ => n - (intOf i).toNat)
    case atStart => exact ⟨0, 0, Nat.zero_le _, rfl, rfl, rfl⟩
    case round =>
      obtain ⟨k, m, hk, rfl, heq, rfl⟩ := hrel
      have HE := Lib.hid heq
      clear heq
      by_cases hlt : k < n
      · obtain ⟨x, hx⟩ : ∃ x, xs[k]? = some x := ⟨_, List.getElem?_eq_getElem (by rw [HL.out]; omega)⟩
        obtain ⟨y, hy⟩ : ∃ x, ys[k]? = some x := ⟨_, List.getElem?_eq_getElem (by rw [HL'.out]; omega)⟩
        obtain ⟨ad, rfl, _, g0, g1, g2, g3, g4, g5⟩ := ha.blk hx hlt
        obtain ⟨ad', rfl, _, f0, f1, f2, f3, f4, f5⟩ := hb.blk hy hlt
        have HT := Lib.hid (take_eq_succ hx hy HE.out)
        clear hx hy
        obtain ⟨xk, xd, xn, xt, xs', xi⟩ := x
        obtain ⟨yk, yd, yn, yt, ys', yi⟩ := y
        simp only at g0 g1 g2 g3 g4 g5 f0 f1 f2 f3 f4 f5
        by_cases hxy : xk = yk ∧ xd = yd ∧ xn = yn ∧ xt = yt ∧ xs' = ys' ∧ xi = yi
        · obtain ⟨rfl, rfl, rfl, rfl, rfl, rfl⟩ := hxy
          generalize S xs' = X1 at *
          generalize S xi = X2 at *
          go_wp2_with fail
          go_quiet (fail)
          go_wp2_with fail
          go_roundw
          case rel => exact ⟨k + 1, m + nq, by omega, by go_num, HT.out.2 (by first | rfl | trivial), rfl⟩
          case measure => simp [intOf]; omega
        · have hne : ¬ xs = ys := fun h => hxy (by have := HT.out.1 (by rw [h]); injection this with h1 h2 h3 h4 h5 h6; exact ⟨h1, h2, h3, h4, h5, h6⟩)
          have HD := Lib.hid (decide_eq_false hne)
          clear hne HT
          have hc : (xk == yk) = false ∨ (xk = yk ∧ (xd == yd) = false) ∨ (xk = yk ∧ xd = yd ∧ (xn == yn) = false) ∨ (xk = yk ∧ xd = yd ∧ xn = yn ∧ (xt == yt) = false) ∨ (xk = yk ∧ xd = yd ∧ xn = yn ∧ xt = yt ∧ ¬ S xs' = S ys') ∨ (xk = yk ∧ xd = yd ∧ xn = yn ∧ xt = yt ∧ S xs' = S ys' ∧ ¬ S xi = S yi) := by
            by_cases h1 : xk = yk
            · by_cases h2 : xd = yd
              · by_cases h3 : xn = yn
                · by_cases h4 : xt = yt
                  · by_cases h5 : S xs' = S ys'
                    · exact .inr (.inr (.inr (.inr (.inr ⟨h1, h2, h3, h4, h5, fun h6 => hxy ⟨h1, h2, h3, h4, S_inj h5, S_inj h6⟩⟩))))
                    · exact .inr (.inr (.inr (.inr (.inl ⟨h1, h2, h3, h4, h5⟩))))
                  · exact .inr (.inr (.inr (.inl ⟨h1, h2, h3, beq_eq_false_iff_ne.2 h4⟩)))
                · exact .inr (.inr (.inl ⟨h1, h2, beq_eq_false_iff_ne.2 h3⟩))
              · exact .inr (.inl ⟨h1, beq_eq_false_iff_ne.2 h2⟩)
            · exact .inl (beq_eq_false_iff_ne.2 h1)
          clear hxy
          generalize S xs' = X1 at *
          generalize S xi = X2 at *
          generalize S ys' = Y1 at *
          generalize S yi = Y2 at *
          rcases hc with q | ⟨rfl, q⟩ | ⟨rfl, rfl, q⟩ | ⟨rfl, rfl, rfl, q⟩ | ⟨rfl, rfl, rfl, rfl, q⟩ | ⟨rfl, rfl, rfl, rfl, rfl, q⟩
          case' inr.inr.inr.inr.inl => obtain ⟨q1, q2, q3⟩ := bytes_ne q
          case' inr.inr.inr.inr.inr => obtain ⟨q1, q2, q3⟩ := bytes_ne q
          all_goals
            go_wp2_with fail
            go_quiet (fail)
            go_wp2_with fail
            go_ret
            refine ⟨?_, below_drewN' (below_drewN' (Below.refl _ _) _) _⟩
            rw [HD.out]
            rfl
      · have hkn : k = n := by omega
        subst hkn
        have hxy : xs = ys := by
          have := HE.out
          rwa [List.take_of_length_le (by rw [HL.out]; omega), List.take_of_length_le (by rw [HL'.out]; omega)] at this
        go_wp2_with fail
        go_ret
        rw [decide_eq_true hxy]
        exact ⟨rfl, below_drewN' (Below.refl _ _) _⟩
  · go_enter Tryd.func19, Tryd.ntmps19
    go_wp2_with fail
    go_ret
    have hne : ¬ xs = ys := fun h => hnn (by rw [← HL.out, ← HL'.out, h])
    rw [decide_eq_false hne]
    exact ⟨rfl, Below.refl _ _⟩
end Go.Proofs.YtommebalgghdjaaDoor
