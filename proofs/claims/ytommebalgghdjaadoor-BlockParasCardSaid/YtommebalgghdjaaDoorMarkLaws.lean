/-
  mark: laws on what its functions compute, in plain Lean.
-/
import Derived.Test.YtommebalgghdjaaDoorMarkLaw
namespace Go.Proofs.YtommebalgghdjaaDoor

/-! ## behind four blanks -/
theorem four_col (n : Nat) (l : List UInt8) (h : 4 ≤ n) : 4 ≤ colT 0 (List.replicate n 32 ++ l) := by
  rw [colT_rep]
  have := (colT_le l (0 + n)).1
  omega
theorem heading_far {l : List UInt8} (h : 4 ≤ colT 0 l) : headingT l = none := by
  unfold headingT; exact if_neg fun h1 => by omega
theorem rule_far {l : List UInt8} (h : 4 ≤ colT 0 l) : ruleT l = false := by
  unfold ruleT; rw [decide_eq_false (by omega)]; rfl
theorem closes_far {l : List UInt8} (c : UInt8) (n : Int) (h : 4 ≤ colT 0 l) : closesT l c n = false := by
  unfold closesT; rw [decide_eq_false (by omega)]; rfl
theorem fence_far {l : List UInt8} (h : 4 ≤ colT 0 l) : fenceT l = none := by
  unfold fenceT; exact if_neg (by omega)
theorem quote_far {l : List UInt8} (h : 4 ≤ colT 0 l) : quoteT l = none := by
  unfold quoteT; exact if_neg (by omega)
theorem item_far {l : List UInt8} (h : 4 ≤ colT 0 l) : itemT l = none := by
  unfold itemT; exact if_neg fun h1 => by omega
theorem under_far {l : List UInt8} (h : 4 ≤ colT 0 l) : underT l = 0 := by
  unfold underT; exact if_pos (.inl (by omega))
theorem html_far {l : List UInt8} (h : 4 ≤ colT 0 l) : htmlT l = false := by
  unfold htmlT; rw [decide_eq_false (by omega)]; rfl

/-! ## quotes -/
theorem quote_law (b : Nat) (l : List UInt8) (h : b ≤ 3) : quoteT (List.replicate b 32 ++ 62 :: l) = some (Lib.trimPrefix l [32]) := by
  have hn : NoBlank (62 :: l) := by intro x hx; simp at hx; subst hx; decide
  obtain ⟨h1, h2⟩ := col_blanks (n := b) hn
  unfold quoteT
  rw [h1, if_pos h, h2]
  rfl

/-! ## lines under headings -/
theorem noBlank_rep {n : Nat} {c : UInt8} (r : List UInt8) (h : 1 ≤ n) (hc : c ≠ 32 ∧ c ≠ 9) : NoBlank (List.replicate n c ++ r) := by
  obtain ⟨n, rfl⟩ : ∃ k, n = k + 1 := ⟨n - 1, by omega⟩
  intro b hb
  rw [List.replicate_succ, List.cons_append] at hb
  simp at hb
  subst hb; exact hc
theorem under_of (l x : List UInt8) (hn : NoBlank l) (hx : Lib.trimRightS l [32, 9] = x) (h0 : x ≠ []) : underT l = if Lib.trimB x 61 = [] then 1 else if Lib.trimB x 45 = [] then 2 else 0 := by
  unfold underT
  rw [colT_no hn, restT_of_no hn, hx]
  exact if_neg fun h => by rcases h with h | h; omega; exact h0 h
theorem last_rep {n : Nat} {c : UInt8} (b : UInt8) (h : (List.replicate n c).getLast? = some b) : b = c := by
  have := List.mem_of_getLast? h
  exact (List.mem_replicate.1 this).2
theorem cs_no {c : UInt8} (h : c ≠ 32 ∧ c ≠ 9) : ([32, 9] : List UInt8).contains c = false := by simp [h.1, h.2]
theorem under_row {n m : Nat} {c : UInt8} (h : 1 ≤ n) (hc : c = 61 ∨ c = 45) : underT (List.replicate n c ++ List.replicate m 32) = if c = 61 then 1 else 2 := by
  have hc2 : c ≠ 32 ∧ c ≠ 9 := by rcases hc with rfl | rfl <;> decide
  rw [under_of _ (List.replicate n c) (noBlank_rep _ h hc2) (trimRightS_app _ _ _ (fun x hx => by rw [(List.mem_replicate.1 hx).2]; rfl) (fun b hb => by rw [last_rep b hb]; exact cs_no hc2))
    (fun e => by have := congrArg List.length e; simp at this; omega)]
  rcases hc with rfl | rfl
  · rw [if_pos ((trimB_nil _ _).2 fun x hx => (List.mem_replicate.1 hx).2)]; rfl
  · rw [if_neg, if_pos ((trimB_nil _ _).2 fun x hx => (List.mem_replicate.1 hx).2)]; rfl
    intro e
    have := (trimB_nil _ _).1 e 45 (List.mem_replicate.2 ⟨by omega, rfl⟩)
    exact absurd this (by decide)
theorem under_no {n : Nat} {c : UInt8} (r : List UInt8) (o : UInt8) (h : 1 ≤ n) (hc : c = 61 ∨ c = 45) (ho : o ≠ 32 ∧ o ≠ 9) (hr : ∃ y ∈ r ++ [o], y ≠ c) : underT (List.replicate n c ++ (r ++ [o])) = 0 := by
  have hc2 : c ≠ 32 ∧ c ≠ 9 := by rcases hc with rfl | rfl <;> decide
  have hx : Lib.trimRightS (List.replicate n c ++ (r ++ [o])) [32, 9] = List.replicate n c ++ (r ++ [o]) := by
    have := trimRightS_app (List.replicate n c ++ (r ++ [o])) [] [32, 9] (by simp) (fun b hb => by
      rw [← List.append_assoc, List.getLast?_append] at hb
      simp at hb
      subst hb; exact cs_no ho)
    simpa using this
  have hmem : c ∈ List.replicate n c ++ (r ++ [o]) := List.mem_append_left _ (List.mem_replicate.2 ⟨by omega, rfl⟩)
  obtain ⟨y, hy, hyc⟩ := hr
  have key : ∀ d : UInt8, Lib.trimB (List.replicate n c ++ (r ++ [o])) d ≠ [] := by
    intro d e
    have h1 := (trimB_nil _ _).1 e c hmem
    have h2 := (trimB_nil _ _).1 e y (List.mem_append_right _ hy)
    exact hyc (h2.trans h1.symm)
  rw [under_of _ _ (noBlank_rep _ h hc2) hx (fun e => by have := congrArg List.length e; simp at this), if_neg (key 61), if_neg (key 45)]

/-! ## headings -/
theorem heading_none {b n : Nat} (r : List UInt8) (hr : ∀ x, r.head? = some x → x ≠ 35) (h : 6 < n) : headingT (List.replicate b 32 ++ (List.replicate n 35 ++ r)) = none := by
  have hn := noBlank_rep (n := n) (c := 35) r (by omega) (by decide)
  obtain ⟨h1, h2⟩ := col_blanks (n := b) hn
  unfold headingT
  rw [h2, (rowT_rep 35 n r hr).1]
  exact if_neg fun hh => by omega
theorem heading_some {b n : Nat} (r : List UInt8) (hb : b ≤ 3) (h1 : 1 ≤ n) (h6 : n ≤ 6) (hr : r = [] ∨ r.head? = some 32) : headingT (List.replicate b 32 ++ (List.replicate n 35 ++ r)) = some (n, restR n (Lib.trimS r [32, 9])) := by
  have hn := noBlank_rep (n := n) (c := 35) r (by omega) (by decide)
  obtain ⟨c1, c2⟩ := col_blanks (n := b) hn
  have hr2 : ∀ x, r.head? = some x → x ≠ 35 := by
    intro x hx
    rcases hr with rfl | hr
    · cases hx
    · rw [hr] at hx; injection hx with hx; subst hx; decide
  obtain ⟨r1, r2⟩ := rowT_rep 35 n r hr2
  unfold headingT
  rw [c1, c2, r1]
  dsimp only
  rw [r2]
  refine if_pos ⟨hb, h1, h6, ?_⟩
  rcases hr with hr | hr
  · exact .inl hr
  · right; rw [hr]; rfl
def Low (l : List UInt8) : Prop := ∀ b ∈ l, b ≠ 32 ∧ b ≠ 9 ∧ b ≠ 35 ∧ b ≠ 96
theorem low_head {l : List UInt8} (h : Low l) : ∀ b, l.head? = some b → ([32, 9] : List UInt8).contains b = false := fun b hb => by
  have := h b (List.mem_of_head? hb)
  exact cs_no ⟨this.1, this.2.1⟩
theorem low_last {l : List UInt8} (h : Low l) : ∀ b, l.getLast? = some b → ([32, 9] : List UInt8).contains b = false := fun b hb => by
  have := h b (List.mem_of_getLast? hb)
  exact cs_no ⟨this.1, this.2.1⟩
theorem last_any {l : List UInt8} (h : Low l) : (l.getLast?.any isB) = false := by
  cases hl : l.getLast? with
  | none => rfl
  | some b =>
    have := h b (List.mem_of_getLast? hl)
    simp [isB, this.1, this.2.1]
/-- text alone -/
theorem heading_text {l : List UInt8} (n : Nat) (h : Low l) : restR n (Lib.trimS (32 :: (l ++ [32, 32])) [32, 9]) = l := by
  have e : (32 :: (l ++ [32, 32]) : List UInt8) = [32] ++ l ++ [32, 32] := by simp
  rw [e, trimS_mid [32] l [32, 32] [32, 9] (by simp) (by simp) (low_head h) (low_last h)]
  have e2 : Lib.trimRightB l 35 = l := by
    have := trimRightB_app l [] 35 (by simp) (fun b hb => (h b (List.mem_of_getLast? hb)).2.2.1)
    simpa using this
  unfold restR
  rw [e2]
  by_cases hl : l = []
  · subst hl; rfl
  · rw [if_neg]
    rw [last_any h]
    rintro (h1 | h1)
    · exact hl h1
    · cases h1
/-- text, and signs behind it -/
theorem heading_signs {l : List UInt8} (n m : Nat) (h : Low l) (hl : l ≠ []) (hm : 1 ≤ m) : restR n (Lib.trimS (32 :: (l ++ (32 :: (List.replicate m 35 ++ [32, 32])))) [32, 9]) = l := by
  have e : (32 :: (l ++ (32 :: (List.replicate m 35 ++ [32, 32]))) : List UInt8) = [32] ++ (l ++ (32 :: List.replicate m 35)) ++ [32, 32] := by simp
  rw [e, trimS_mid [32] (l ++ (32 :: List.replicate m 35)) [32, 32] [32, 9] (by simp) (by simp) (fun b hb => by
      cases l with
      | nil => exact absurd rfl hl
      | cons x l => exact low_head h b (by simpa using hb)) (fun b hb => by
      rw [show (32 :: List.replicate m 35 : List UInt8) = [32] ++ List.replicate m 35 from rfl, ← List.append_assoc, List.getLast?_append] at hb
      have e2 : (List.replicate m (35 : UInt8)).getLast? = some 35 := by
        obtain ⟨k, rfl⟩ : ∃ k, m = k + 1 := ⟨m - 1, by omega⟩
        simp [List.getLast?_replicate]
      rw [e2] at hb
      simp at hb
      subst hb; rfl)]
  have e2 : Lib.trimRightB (l ++ (32 :: List.replicate m 35)) 35 = l ++ [32] := by
    have := trimRightB_app (l ++ [32]) (List.replicate m 35) 35 (fun x hx => (List.mem_replicate.1 hx).2) (fun b hb => by simp at hb; subst hb; decide)
    simpa using this
  unfold restR
  rw [e2, if_pos (.inr (by simp [isB]))]
  exact trimRightS_app l [32] [32, 9] (by simp) (low_last h)

/-! ## fences -/
theorem fence_law {n : Nat} {c : UInt8} {l : List UInt8} (h : 1 ≤ n) (hc : c = 96 ∨ c = 126) (hl : Low l) : fenceT (List.replicate n c ++ 32 :: l) = if 3 ≤ n then some (c, n, l) else none := by
  have hc2 : c ≠ 32 ∧ c ≠ 9 := by rcases hc with rfl | rfl <;> decide
  have hn := noBlank_rep (n := n) (c := c) (32 :: l) h hc2
  obtain ⟨r1, r2⟩ := rowT_rep c n (32 :: l) (fun b hb => by simp at hb; subst hb; exact hc2.1.symm)
  have hd : Lib.trimS (32 :: l) [32, 9] = l := by
    have := trimS_mid [32] l [] [32, 9] (by simp) (by simp) (low_head hl) (low_last hl)
    simpa using this
  unfold fenceT
  rw [colT_no hn, restT_of_no hn, if_pos (by omega)]
  obtain ⟨k, rfl⟩ : ∃ k, n = k + 1 := ⟨n - 1, by omega⟩
  rw [List.replicate_succ, List.cons_append] at r1 r2 ⊢
  simp only [hc, if_true, r1, r2, hd]
  by_cases h3 : 3 ≤ k + 1
  · rw [if_pos h3, if_pos ⟨h3, fun hh => (hl 96 hh.2).2.2.2 rfl⟩]
  · rw [if_neg h3, if_neg fun hh => h3 hh.1]
theorem closes_law {m : Nat} {c : UInt8} {r : List UInt8} (n : Int) (h : 1 ≤ m) (hc : c = 96 ∨ c = 126) (hr : ∀ b, r.head? = some b → b ≠ c) : closesT (List.replicate m c ++ r) c n = (decide (max n 1 ≤ (m : Int)) && r.all isB) := by
  have hc2 : c ≠ 32 ∧ c ≠ 9 := by rcases hc with rfl | rfl <;> decide
  have hn := noBlank_rep (n := m) (c := c) r h hc2
  obtain ⟨r1, r2⟩ := rowT_rep c m r hr
  unfold closesT
  rw [colT_no hn, restT_of_no hn, r1, r2]
  rfl
end Go.Proofs.YtommebalgghdjaaDoor
