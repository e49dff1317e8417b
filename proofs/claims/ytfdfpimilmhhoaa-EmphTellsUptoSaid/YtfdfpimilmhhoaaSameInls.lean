/-
  bowdlerbook.SameInls: its contract: whether two lists of nodes are alike.
-/
import Derived.Test.YtfdfpimilmhhoaaDeeper
import Derived.Laws.StructEq
namespace Go.Proofs.Ytfdfpimilmhhoaa
open Go.RowKit

theorem take_eq_succ {α : Type} {a b : List α} {k : Nat} {x y : α} (hx : a[k]? = some x) (hy : b[k]? = some y) (h : a.take k = b.take k) : a.take (k + 1) = b.take (k + 1) ↔ x = y := by
  rw [List.take_add_one, List.take_add_one, hx, hy, h]
  simp
theorem bytes_same (a b : ByteArray) : (a == b) = true ↔ a = b := by
  rw [beq_toListBytes, beq_iff_eq, ByteArray.toList_eq, ByteArray.toList_eq]
  exact ⟨fun h => L_inj h, fun h => by rw [h]⟩
/-- two texts that are not one: in all the walk's spellings -/
theorem bytes_ne {a b : ByteArray} (h : ¬ a = b) : (a == b) = false ∧ (a.toList == b.toList) = false ∧ ¬ a.toList = b.toList := by
  have h1 : (a == b) = false := Bool.eq_false_iff.2 fun e => h ((bytes_same _ _).1 e)
  have h2 : (a.toList == b.toList) = false := by rw [← beq_toListBytes]; exact h1
  exact ⟨h1, h2, fun e => by rw [e] at h2; simp at h2⟩

set_option maxHeartbeats 1000000 in
set_option maxRecDepth 100000 in
theorem sameInls_any (A A' : Option Addr) (n n' c c' K : Nat) (xs ys : List Inl) (w : World) (ha : Reads w K 5 A n (inlCells xs)) (hb : Reads w K 5 A' n' (inlCells ys)) (hn : n ≤ 1099511627776) (hn' : n' ≤ 1099511627776) :
    Calls Try.prog 25 #[.slice A n c, .slice A' n' c'] w fun e w' => e = .returned (.bool (decide (xs = ys))) ∧ ∃ m, w' = w.drewN m := by
  have hl : xs.length = n := by have := ha.1; rw [flat_length _ 5 inl_len] at this; omega
  have hl' : ys.length = n' := by have := hb.1; rw [flat_length _ 5 inl_len] at this; omega
  have HL := Lib.hid hl
  have HL' := Lib.hid hl'
  clear hl hl'
  by_cases hnn : n = n'
  · subst hnn
    go_enter Try.func25, Try.ntmps25
    go_wp2_with fail
    go_loopw [5] (fun i wr => ∃ k m : Nat, k ≤ n ∧ i = .int .i64 k ∧ xs.take k = ys.take k ∧ wr = w.drewN m) (fun i _ => n - (intOf i).toNat)
    case atStart => exact ⟨0, 0, Nat.zero_le _, rfl, rfl, rfl⟩
    case round =>
      obtain ⟨k, m, hk, rfl, heq, rfl⟩ := hrel
      have HE := Lib.hid heq
      clear heq
      by_cases hlt : k < n
      · obtain ⟨x, hx⟩ : ∃ x, xs[k]? = some x := ⟨_, List.getElem?_eq_getElem (by rw [HL.out]; omega)⟩
        obtain ⟨y, hy⟩ : ∃ x, ys[k]? = some x := ⟨_, List.getElem?_eq_getElem (by rw [HL'.out]; omega)⟩
        obtain ⟨ad, rfl, _, _, g0, g1, g2, g3, g4⟩ := ha.inl hx
        obtain ⟨ad', rfl, _, _, f0, f1, f2, f3, f4⟩ := hb.inl hy
        have HT := Lib.hid (take_eq_succ hx hy HE.out)
        clear hx hy
        obtain ⟨xk, xd, xt, xu, xi⟩ := x
        obtain ⟨yk, yd, yt, yu, yi⟩ := y
        simp only at g0 g1 g2 g3 g4 f0 f1 f2 f3 f4
        by_cases hxy : xk = yk ∧ xd = yd ∧ xt = yt ∧ xu = yu ∧ xi = yi
        · obtain ⟨rfl, rfl, rfl, rfl, rfl⟩ := hxy
          go_wp2_with fail
          go_quiet (fail)
          go_wp2_with fail
          go_roundw
          case rel => exact ⟨k + 1, m + nq, by omega, by go_num, HT.out.2 (by first | rfl | trivial), rfl⟩
          case measure => simp [intOf]; omega
        · have hne : ¬ xs = ys := fun h => hxy (by have := HT.out.1 (by rw [h]); injection this with h1 h2 h3 h4 h5; exact ⟨h1, h2, h3, h4, h5⟩)
          have HD := Lib.hid (decide_eq_false hne)
          clear hne HT
          have hc : (xk == yk) = false ∨ (xk = yk ∧ (xd == yd) = false) ∨ (xk = yk ∧ xd = yd ∧ ¬ xt = yt) ∨ (xk = yk ∧ xd = yd ∧ xt = yt ∧ ¬ xu = yu) ∨ (xk = yk ∧ xd = yd ∧ xt = yt ∧ xu = yu ∧ ¬ xi = yi) := by
            by_cases h1 : xk = yk
            · by_cases h2 : xd = yd
              · by_cases h3 : xt = yt
                · by_cases h4 : xu = yu
                  · exact .inr (.inr (.inr (.inr ⟨h1, h2, h3, h4, fun h5 => hxy ⟨h1, h2, h3, h4, h5⟩⟩)))
                  · exact .inr (.inr (.inr (.inl ⟨h1, h2, h3, h4⟩)))
                · exact .inr (.inr (.inl ⟨h1, h2, h3⟩))
              · exact .inr (.inl ⟨h1, beq_eq_false_iff_ne.2 h2⟩)
            · exact .inl (beq_eq_false_iff_ne.2 h1)
          clear hxy
          rcases hc with q | ⟨rfl, q⟩ | ⟨rfl, rfl, q⟩ | ⟨rfl, rfl, rfl, q⟩ | ⟨rfl, rfl, rfl, rfl, q⟩
          case' inr.inr.inl => obtain ⟨q1, q2, q3⟩ := bytes_ne q
          case' inr.inr.inr.inl => obtain ⟨q1, q2, q3⟩ := bytes_ne q
          case' inr.inr.inr.inr => obtain ⟨q1, q2, q3⟩ := bytes_ne q
          all_goals
            go_wp2_with fail
            go_quiet (fail)
            go_wp2_with fail
            go_ret
            refine ⟨?_, _, World.drewN_drewN _ _ _⟩
            rw [HD.out]
            rfl
      · have hkn : k = n := by omega
        subst hkn
        have hxy : xs = ys := by
          have := HE.out
          rwa [List.take_of_length_le (by rw [HL.out]; omega), List.take_of_length_le (by rw [HL'.out]; omega)] at this
        go_wp2_with fail
        go_ret
        rw [decide_eq_true hxy]
        exact ⟨rfl, m, rfl⟩
  · go_enter Try.func25, Try.ntmps25
    go_wp2_with fail
    go_ret
    have hne : ¬ xs = ys := fun h => hnn (by rw [← HL.out, ← HL'.out, h])
    rw [decide_eq_false hne]
    exact ⟨rfl, 0, rfl⟩
end Go.Proofs.Ytfdfpimilmhhoaa
