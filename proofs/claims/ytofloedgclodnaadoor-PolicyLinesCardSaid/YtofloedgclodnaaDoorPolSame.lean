/-
  bowdlerlaw4.same: whether two rows of pairs are alike; and how two pairs are compared.
-/
import Derived.Test.YtofloedgclodnaaDoorPolRight
import Derived.Test.YtofloedgclodnaaDoorSameTexts
import Derived.Laws.StructEq
namespace Go.Proofs.YtofloedgclodnaaDoor
open Go.RowKit

theorem pairEq (w : World) (a b c d : Int) : (Op.equalIn 10000 63 (.agg #[.int .i64 a, .int .i64 b]) (.agg #[.int .i64 c, .int .i64 d])).run Tryd.prog w = .ok (a == c && b == d) w := by
  have u3 := Tryd.underlying3
  rw [Op.equalIn]
  simp only [Sem.run_bind, run_underlying Tryd.underlying63, Result.andThen_ok]
  go_simp
  rw [show List.range' 0 2 = [0, 1] from rfl]
  simp only [List.forIn_cons, List.forIn_nil]
  cases h1 : (a == c) <;> cases h2 : (b == d) <;> go_simp
attribute [local go_sem] pairEq

set_option maxHeartbeats 400000 in
set_option maxRecDepth 100000 in
theorem same_any (A A' : Option Addr) (n n' c c' K : Nat) (xs ys : List (Int × Int)) (w : World) (ha : Reads w K 2 A n (prCells xs)) (hb : Reads w K 2 A' n' (prCells ys)) (hn : n ≤ 1099511627776) (hn' : n' ≤ 1099511627776) :
    Calls Tryd.prog 20 #[.slice A n c, .slice A' n' c'] w fun e w' => e = .returned (.bool (decide (xs = ys))) ∧ ∃ m, w' = w.drewN m := by
  have hl : xs.length = n := by have := ha.1; rw [prCells_length] at this; omega
  have hl' : ys.length = n' := by have := hb.1; rw [prCells_length] at this; omega
  have HL := Lib.hid hl
  have HL' := Lib.hid hl'
  clear hl hl'
  by_cases hnn : n = n'
  · subst hnn
    go_enter Tryd.func20, Tryd.ntmps20
    go_wp2_with fail
    go_loopw [13] (fun i wr => ∃ k m : Nat, k ≤ n ∧ i = .int .i64 k ∧ xs.take k = ys.take k ∧ wr = w.drewN m) (fun i _ => n - (intOf i).toNat)
    case atStart => exact ⟨0, 0, Nat.zero_le _, rfl, rfl, rfl⟩
    case round =>
      obtain ⟨k, m, hk, rfl, heq, rfl⟩ := hrel
      have HE := Lib.hid heq
      clear heq
      by_cases hlt : k < n
      · have hlx : k < xs.length := by rw [HL.out]; exact hlt
        have hly : k < ys.length := by rw [HL'.out]; exact hlt
        have HT := Lib.hid (take_eq_succ (List.getElem?_eq_getElem hlx) (List.getElem?_eq_getElem hly) HE.out)
        have hca := prCells_at xs k hlx
        have hcb := prCells_at ys k hly
        generalize xs[k] = x at *
        generalize ys[k] = y at *
        obtain ⟨ad, rfl, _, hc0, hc1⟩ := ha.elem hlt
        obtain ⟨ad', rfl, _, hd0, hd1⟩ := hb.elem hlt
        have c0 := hc0 _ hca.1
        have c1 := hc1 1 _ (by decide) hca.2
        have d0 := hd0 _ hcb.1
        have d1 := hd1 1 _ (by decide) hcb.2
        clear hc0 hc1 hd0 hd1 hca hcb
        obtain ⟨x1, x2⟩ := x
        obtain ⟨y1, y2⟩ := y
        by_cases hxy : (x1, x2) = (y1, y2)
        · have HQ := Lib.hid hxy
          have q1 : (x1 == y1 && x2 == y2) = true := by injection hxy with e1 e2; simp [e1, e2]
          clear hxy
          go_wp2_with fail
          go_quiet (fail)
          go_wp2_with fail
          go_roundw
          case rel => exact ⟨k + 1, m + nq, by omega, by go_num, HT.out.2 HQ.out, rfl⟩
          case measure => simp [intOf]; omega
        · have q1 : (x1 == y1 && x2 == y2) = false := by
            cases h : (x1 == y1 && x2 == y2)
            · rfl
            · rw [Bool.and_eq_true, beq_iff_eq, beq_iff_eq] at h; exact absurd (by rw [h.1, h.2]) hxy
          have hne : ¬ xs = ys := fun h => hxy (HT.out.1 (by rw [h]))
          have HD := Lib.hid (decide_eq_false hne)
          clear hne HT hxy
          go_wp2_with fail
          go_quiet (fail)
          go_wp2_with fail
          go_ret
          refine ⟨?_, _, World.drewN_drewN _ _ _⟩
          rw [HD.out]
          rfl
      · have hkn : k = n := by omega
        subst hkn
        have hxy : xs = ys := by
          have := HE.out
          rwa [List.take_of_length_le (by rw [HL.out]; omega), List.take_of_length_le (by rw [HL'.out]; omega)] at this
        go_wp2_with fail
        go_ret
        rw [decide_eq_true hxy]
        exact ⟨rfl, m, rfl⟩
  · go_enter Tryd.func20, Tryd.ntmps20
    go_wp2_with fail
    go_ret
    have hne : ¬ xs = ys := fun h => hnn (by rw [← HL.out, ← HL'.out, h])
    rw [decide_eq_false hne]
    exact ⟨rfl, 0, rfl⟩
end Go.Proofs.YtofloedgclodnaaDoor
