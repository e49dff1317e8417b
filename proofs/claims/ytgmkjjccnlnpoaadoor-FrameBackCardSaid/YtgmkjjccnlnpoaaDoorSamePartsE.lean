/-
  bowdlerbook.SameParts at parts that are alike: it answers true.
-/
import Derived.Test.YtgmkjjccnlnpoaaDoorRight
namespace Go.Proofs.YtgmkjjccnlnpoaaDoor
open Go.RowKit

set_option maxHeartbeats 1000000 in
set_option maxRecDepth 100000 in
theorem samePart_eq (p q : PartR) (h : p.t = q.t) (K : Nat) (w : World) (h1 : Reads w K 1 p.la p.t.lines.length (txCells p.t.lines)) (h2 : Reads w K 1 q.la q.t.lines.length (txCells q.t.lines)) (hK : K ≤ w.heap.size) (hn : p.t.lines.length ≤ 1048576) :
    Calls Tryd.prog 31 #[.agg #[.int .i64 p.t.depth, .bool p.t.div, .string p.t.label, .bool p.t.opn, .slice p.la p.t.lines.length p.lc], .agg #[.int .i64 q.t.depth, .bool q.t.div, .string q.t.label, .bool q.t.opn, .slice q.la q.t.lines.length q.lc]] w
      fun e w' => e = .returned (.bool true) ∧ Below w.heap.size w w' := by
  obtain ⟨t, la, lc⟩ := p
  obtain ⟨t', la', lc'⟩ := q
  simp only at h h1 h2 hn ⊢
  subst h
  have HS : Hid (∀ w1, Below w.heap.size w w1 → Calls Tryd.prog 51 #[.slice la t.lines.length lc, .slice la' t.lines.length lc'] w1 fun e w' => e = .returned (.bool true) ∧ ∃ m, w' = w1.drewN m) := Lib.hid fun w1 hb => by
    have := sameTexts_any la la' t.lines.length t.lines.length lc lc' K t.lines t.lines w1 (h1.below (hb.mono hK)) (h2.below (hb.mono hK)) (by omega) (by omega)
    rwa [decide_eq_true rfl] at this
  have hsz : (t.label.size : Int) = (t.label.size : Int) := rfl
  obtain ⟨d, v, lb, o, ls⟩ := t
  simp only at HS ⊢
  generalize ls.length = m at *
  clear h1 h2 hsz
  have bA : Below w.heap.size w ((w.alloc (.cells #[.int .i64 d, .bool v, .string lb, .bool o, .slice la m lc] 42)).alloc (.cells #[.int .i64 d, .bool v, .string lb, .bool o, .slice la' m lc'] 42)) := ((Below.refl _ _).alloc (Nat.le_refl _) _).alloc (by simp) _
  have HB := Lib.hid bA
  clear bA
  have q1 : (d == d) = true := beq_self_eq_true d
  have q2 : (lb == lb) = true := (bytes_same lb lb).2 rfl
  have q3 : (lb.toList == lb.toList) = true := by rw [← beq_toListBytes]; exact q2
  cases v
  · cases o
    all_goals
      go_enter Tryd.func31, Tryd.ntmps31
      go_wp2_with (go_at_call 51; refine (HS.out _ HB.out).mono ?_; rintro e w1 ⟨rfl, mm, rfl⟩)
      go_ret
      exact ⟨rfl, below_drewN' HB.out _⟩
  · cases o
    all_goals
      go_enter Tryd.func31, Tryd.ntmps31
      go_wp2_with (go_at_call 51; refine (HS.out _ HB.out).mono ?_; rintro e w1 ⟨rfl, mm, rfl⟩)
      go_ret
      exact ⟨rfl, below_drewN' HB.out _⟩

set_option maxHeartbeats 2000000 in
set_option maxRecDepth 100000 in
theorem sameParts_eq (A A' : Option Addr) (n c n' c' K : Nat) (ps qs : List PartR) (w : World) (h1 : PartsIn w K A n ps) (h2 : PartsIn w K A' n' qs) (he : ps.map (·.t) = qs.map (·.t)) (hK : K ≤ w.heap.size) (hn : n ≤ 1048576) (hz : ∀ p ∈ ps, p.t.lines.length ≤ 1048576) :
    Calls Tryd.prog 15 #[.slice A n c, .slice A' n' c'] w fun e w' => e = .returned (.bool true) ∧ Below w.heap.size w w' := by
  have hl := h1.len
  have hl' := h2.len
  have hnn : n' = n := by have := congrArg List.length he; simp at this; omega
  subst hnn
  have HL := Lib.hid hl
  have HL' := Lib.hid hl'
  have HE := Lib.hid he
  clear hl hl' he
  go_enter Tryd.func15, Tryd.ntmps15
  go_wp2_with fail
  go_loopw [5] (fun s wr => ∃ k, k ≤ n' ∧ s = .int .i64 k ∧ Below w.heap.size w wr) (fun s _ => n' - (intOf s).toNat)
  case atStart => exact ⟨0, Nat.zero_le _, rfl, Below.refl _ _⟩
  case round =>
    obtain ⟨k, hk, rfl, hb⟩ := hrel
    have hzw := hb.size
    by_cases hlt : k < n'
    · obtain ⟨p, hp⟩ : ∃ p, ps[k]? = some p := ⟨_, List.getElem?_eq_getElem (by rw [HL.out]; exact hlt)⟩
      obtain ⟨q, hq⟩ : ∃ q, qs[k]? = some q := ⟨_, List.getElem?_eq_getElem (by rw [HL'.out]; exact hlt)⟩
      have hpq : p.t = q.t := by
        have := congrArg (fun l => l[k]?) HE.out
        simp only [List.getElem?_map, hp, hq, Option.map_some] at this
        exact Option.some.inj this
      have hbK := hb.mono hK
      obtain ⟨ad, rfl, _, c0, c1, c2, c3, c4⟩ := (h1.1.below hbK).part hp hlt
      obtain ⟨ad', rfl, _, d0, d1, d2, d3, d4⟩ := (h2.1.below hbK).part hq hlt
      have HC : Hid (∀ w1, Below w.heap.size w w1 → Calls Tryd.prog 31 #[.agg #[.int .i64 p.t.depth, .bool p.t.div, .string p.t.label, .bool p.t.opn, .slice p.la p.t.lines.length p.lc], .agg #[.int .i64 q.t.depth, .bool q.t.div, .string q.t.label, .bool q.t.opn, .slice q.la q.t.lines.length q.lc]] w1
          fun e w' => e = .returned (.bool true) ∧ Below w1.heap.size w1 w') := Lib.hid fun w1 hb1 =>
        samePart_eq p q hpq K w1 ((h1.2 p (List.mem_of_getElem? hp)).below (hb1.mono hK)) ((h2.2 q (List.mem_of_getElem? hq)).below (hb1.mono hK)) (by have := hb1.size; omega) (hz p (List.mem_of_getElem? hp))
      clear hp hq hpq hbK
      go_wp2_with fail
      go_still_tail 8, (by kernel_rfl)
      have hb2 := hb.drew
      change wpList _ _ _ _ _ wr.drew
      clear c0 c1 c2 c3 c4 d0 d1 d2 d3 d4 hb
      generalize wr.drew = w2 at *
      have hz2 := hb2.size
      go_wp2_with (go_at_call 31; refine (HC.out _ hb2).mono ?_; rintro e w3 ⟨rfl, b3⟩)
      go_roundw
      case rel => exact ⟨k + 1, by omega, by go_num, hb2.trans (b3.mono hz2)⟩
      case measure => simp [intOf]; omega
    · go_wp2_with fail
      go_ret
      exact ⟨rfl, hb⟩
end Go.Proofs.YtgmkjjccnlnpoaaDoor
