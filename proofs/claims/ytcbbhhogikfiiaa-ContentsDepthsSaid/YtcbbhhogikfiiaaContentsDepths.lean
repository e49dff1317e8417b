/-
  bowdlerlaw20.ContentsDepths: its walk: it answers true, and turns nothing that was there.
-/
import Derived.Test.YtcbbhhogikfiiaaAlive
namespace Go.Proofs.Ytcbbhhogikfiiaa
open Go.RowKit

theorem dpDepths_get (zs : List Int) : ∀ (st : List Int) (i : Nat) (x : Int), zs[i]? = some x → (dpDepths st zs)[i]? = some (popTo x (dpStack st (zs.take i))).length := by
  induction zs with
  | nil => intro st i x hx; simp at hx
  | cons z zs ih =>
    intro st i x hx
    rcases i with _ | i
    · simp at hx; subst hx; simp [dpDepths, dpStack]
    · have := ih (z :: popTo z st) i x (by simpa using hx)
      simpa [dpDepths, dpStack] using this
theorem popTo_popTo (x : Int) (st : List Int) : popTo x (popTo x st) = popTo x st := by
  induction st with
  | nil => rfl
  | cons y st ih =>
    by_cases h : x ≤ y
    · rw [popTo_cons_le h, ih]
    · rw [popTo_cons_lt h, popTo_cons_lt h]
/-- the law of two that stand side by side -/
theorem dp_two {zs : List Int} {k : Nat} {a b : Int} (ha : zs[k]? = some a) (hb : zs[k + 1]? = some b) : ∃ d e : Nat, (dpDepths [] zs)[k]? = some d ∧ (dpDepths [] zs)[k + 1]? = some e ∧
    (a < b → e = d + 1) ∧ (b = a → e = d) ∧ (b < a → e ≤ d) := by
  refine ⟨_, _, dpDepths_get zs [] k a ha, dpDepths_get zs [] (k + 1) b hb, ?_⟩
  have ht : zs.take (k + 1) = zs.take k ++ [a] := by rw [List.take_add_one, ha]; rfl
  rw [ht, dpStack_snoc]
  refine ⟨fun h => ?_, fun h => ?_, fun h => ?_⟩
  · rw [popTo_cons_lt (by omega)]; simp
  · subst h; rw [popTo_cons_le (by omega), popTo_popTo]
  · rw [popTo_cons_le (by omega)]; exact popTo_length _ _

set_option maxHeartbeats 2000000 in
set_option maxRecDepth 100000 in
theorem contentsDepths_walk (A : Option Addr) (n c : Nat) (zs : List Int) (w : World) (hr : Reads w w.heap.size 1 A n (ints zs)) :
    Calls Try.prog 5 #[.slice A n c] w fun e w' => e = .returned (.bool true) ∧ Below w.heap.size w w' := by
  have hl : zs.length = n := by have := hr.1; simpa using this
  have HL := Lib.hid hl
  clear hl
  by_cases hbig : 60 < n
  · go_enter Try.func5, Try.ntmps5
    go_wp2_with fail
    refine (alive_any _).mono ?_
    rintro e w1 ⟨rfl, b1⟩
    go_wp2_with fail
    go_ret
    exact ⟨rfl, b1⟩
  · go_enter Try.func5, Try.ntmps5
    go_wp2_with fail
    refine (alive_any _).mono ?_
    rintro e w1 ⟨rfl, b1⟩
    have hr1 := hr.below b1
    have z1 := b1.size
    go_wp2_with fail
    refine (depths_any A n c zs _ (hr1.more z1) (by omega)).mono ?_
    rintro e w2 ⟨A2, c2, rfl, hd, b2⟩
    have bb2 := b1.trans (b2.mono z1)
    have hr2 := hr.below bb2
    clear b1 b2 hr1 hr
    go_wp2_with fail
    go_loopw [24] (fun i wr => ∃ k m : Nat, k ≤ n ∧ i = .int .i64 k ∧ wr = w2.drewN m) (fun i _ => n - (intOf i).toNat)
    case atStart => exact ⟨0, 0, Nat.zero_le _, rfl, rfl⟩
    case round =>
      obtain ⟨k, m, hk, rfl, rfl⟩ := hrel
      by_cases hlt : k < n
      · obtain ⟨g, rfl, _, _⟩ := hd.some_ (by omega)
        rcases Nat.eq_zero_or_pos k with rfl | hpos
        · obtain ⟨x, hx⟩ : ∃ x, zs[0]? = some x := ⟨_, List.getElem?_eq_getElem (by rw [HL.out]; omega)⟩
          have hc0 : w2.cell? ⟨g, 0, none⟩ = some (.int .i64 0) := hd.cell (j := 0) (by rw [List.getElem?_map, dpDepths_get zs [] 0 x hx]; rfl)
          clear hx
          go_wp2_with fail
          go_roundw
          case rel => exact ⟨1, m, by omega, rfl, rfl⟩
          case measure => simp [intOf]; omega
        · obtain ⟨ad, u, rfl, _, ha0, hca⟩ := hr2.at_ (k := k - 1) (by omega)
          obtain ⟨ad', u', hA', _, hb0, hcb⟩ := hr2.at_ (k := k) hlt
          obtain rfl : ad' = ad := by injection hA' with hA'; exact hA'.symm
          obtain ⟨a, ha, rfl⟩ : ∃ x, zs[k - 1]? = some x ∧ Value.int .i64 x = u := by simpa using ha0
          obtain ⟨b, hb, rfl⟩ : ∃ x, zs[k]? = some x ∧ Value.int .i64 x = u' := by simpa using hb0
          obtain ⟨d, e, hd0, he0, h1, h2, h3⟩ := dp_two ha (by rw [show k - 1 + 1 = k by omega]; exact hb)
          rw [show k - 1 + 1 = k by omega] at he0
          have hcd : w2.cell? ⟨g, k - 1, none⟩ = some (.int .i64 d) := hd.cell (j := k - 1) (by rw [List.getElem?_map, hd0]; rfl)
          have hce : w2.cell? ⟨g, k, none⟩ = some (.int .i64 e) := hd.cell (j := k) (by rw [List.getElem?_map, he0]; rfl)
          have hdle : d ≤ n := by
            have := dpDepths_le zs [] d (List.mem_of_getElem? hd0)
            rw [HL.out] at this; simpa using this
          have q0 : ((k : Int) == 0) = false := beq_eq_false_iff_ne.2 (by omega)
          have q1 : IntKind.i64.wrap ((k : Int) - 1) = (k : Int) - 1 := IntWalk.i64_in _ (by omega)
          have q4 : ((k : Int) - 1).toNat = k - 1 := by omega
          have q5 : 0 ≤ (k : Int) - 1 := by omega
          have q2 : IntKind.i64.wrap ((d : Int) + 1) = (d : Int) + 1 := IntWalk.i64_in _ (by omega)
          have q3 : decide ((e : Int) < 0) = false := decide_eq_false (by omega)
          clear ha hb ha0 hb0 hd0 he0 hA'
          have hfacts : (decide (a < b) = true ∧ ((e : Int) != (d : Int) + 1) = false ∧ (b == a) = false ∧ decide (b < a) = false) ∨
              (decide (a < b) = false ∧ (b == a) = true ∧ ((e : Int) != (d : Int)) = false ∧ decide (b < a) = false) ∨
              (decide (a < b) = false ∧ (b == a) = false ∧ decide (b < a) = true ∧ decide (d < e) = false) := by
            rcases Int.lt_trichotomy a b with hab | hab | hab
            · exact .inl ⟨decide_eq_true hab, by rw [h1 hab]; simp, beq_eq_false_iff_ne.2 (by omega), decide_eq_false (by omega)⟩
            · exact .inr (.inl ⟨decide_eq_false (by omega), beq_iff_eq.2 hab.symm, by rw [h2 hab.symm]; simp, decide_eq_false (by omega)⟩)
            · exact .inr (.inr ⟨decide_eq_false (by omega), beq_eq_false_iff_ne.2 (by omega), decide_eq_true hab, decide_eq_false (by have := h3 hab; omega)⟩)
          clear h1 h2 h3
          rcases hfacts with ⟨r1, r2, r3, r4⟩ | ⟨r1, r2, r3, r4⟩ | ⟨r1, r2, r3, r4⟩
          all_goals
            go_wp2_with fail
            go_quiet (fail)
            go_wp2_with fail
            go_quiet (fail)
            clear q0 q1 q2 q3 q4 q5 r1 r2 r3 r4 hca hcb hcd hce
            go_wp2_with fail
            go_roundw
            case rel => exact ⟨k + 1, _, by omega, by go_num, rfl⟩
            case measure => simp [intOf]; omega
      · go_wp2_with fail
        go_ret
        exact ⟨rfl, below_drewN' bb2 _⟩
end Go.Proofs.Ytcbbhhogikfiiaa
