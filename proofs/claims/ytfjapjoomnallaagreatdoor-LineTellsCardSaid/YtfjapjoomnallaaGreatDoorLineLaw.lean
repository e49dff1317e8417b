/-
  line: what its functions compute, as plain Lean over lists of bytes, and laws on it.
-/
import Derived.Test.YtfjapjoomnallaaGreatDoorPlain
import Derived.Lib.SplitLaws
import Derived.Lib.CountLaws
import Derived.Lib.Split
import Derived.Lib.TrimByte
import Derived.Lib.SlTrimSet
namespace Go.Proofs.YtfjapjoomnallaaGreatDoor

/-! ## lines -/
def split10 : List UInt8 → List (List UInt8)
  | [] => [[]]
  | b :: r => if b = 10 then [] :: split10 r else match split10 r with
    | x :: xs => (b :: x) :: xs
    | [] => [[b]]
/-- the lines of a text -/
def linesT (l : List UInt8) : List (List UInt8) := if (split10 l).getLast? = some [] then (split10 l).dropLast else split10 l
def joinT (l : List (List UInt8)) : List UInt8 := l.flatMap (fun x => x ++ [10])

theorem split10_ne (l : List UInt8) : split10 l ≠ [] := by
  cases l with
  | nil => simp [split10]
  | cons b r =>
    unfold split10
    split
    · simp
    · split <;> simp
theorem split10_none {l : List UInt8} (h : 10 ∉ l) : split10 l = [l] := by
  induction l with
  | nil => rfl
  | cons b r ih =>
    have h1 : b ≠ 10 := fun e => h (by rw [e]; simp)
    rw [split10, if_neg h1, ih (fun hh => h (by simp [hh]))]
theorem split10_app {a : List UInt8} (r : List UInt8) (h : 10 ∉ a) : split10 (a ++ 10 :: r) = a :: split10 r := by
  induction a with
  | nil => simp [split10]
  | cons b a ih =>
    have h1 : b ≠ 10 := fun e => h (by rw [e]; simp)
    rw [List.cons_append, split10, if_neg h1, ih (fun hh => h (by simp [hh]))]
theorem find10 (l : List UInt8) : 10 ∉ l ∨ ∃ a r, l = a ++ 10 :: r ∧ 10 ∉ a := by
  induction l with
  | nil => exact .inl (by simp)
  | cons b l ih =>
    by_cases hb : b = 10
    · exact .inr ⟨[], l, by rw [hb]; rfl, by simp⟩
    · rcases ih with h | ⟨a, r, rfl, h⟩
      · exact .inl (by simp only [List.mem_cons, not_or]; exact ⟨fun e => hb e.symm, h⟩)
      · exact .inr ⟨b :: a, r, rfl, by simp only [List.mem_cons, not_or]; exact ⟨fun e => hb e.symm, h⟩⟩
theorem split10_mem {l : List UInt8} : ∀ x ∈ split10 l, 10 ∉ x := by
  induction l with
  | nil => simp [split10]
  | cons b r ih =>
    intro x hx
    unfold split10 at hx
    split at hx
    · rcases List.mem_cons.1 hx with rfl | hx
      · simp
      · exact ih x hx
    · rename_i hb
      cases hs : split10 r with
      | nil => exact absurd hs (split10_ne r)
      | cons y ys =>
        rw [hs] at hx ih
        rcases List.mem_cons.1 hx with rfl | hx
        · simp only [List.mem_cons, not_or]
          exact ⟨fun e => hb e.symm, ih y (by simp)⟩
        · exact ih x (by simp [hx])
/-- the last piece apart, all others with an LF -/
theorem split10_join (l : List UInt8) : ∃ ini last, split10 l = ini ++ [last] ∧ l = joinT ini ++ last ∧ 10 ∉ last := by
  induction l with
  | nil => exact ⟨[], [], rfl, rfl, by simp⟩
  | cons b r ih =>
    obtain ⟨ini, last, h1, h2, h3⟩ := ih
    by_cases hb : b = 10
    · subst hb
      refine ⟨[] :: ini, last, by rw [split10, if_pos rfl, h1]; rfl, ?_, h3⟩
      conv => lhs; rw [h2]
      simp [joinT]
    · cases ini with
      | nil =>
        refine ⟨[], b :: last, by rw [split10, if_neg hb, h1]; rfl, by rw [h2]; rfl, ?_⟩
        simp only [List.mem_cons, not_or]; exact ⟨fun e => hb e.symm, h3⟩
      | cons y ys =>
        refine ⟨(b :: y) :: ys, last, by rw [split10, if_neg hb, h1]; rfl, ?_, h3⟩
        conv => lhs; rw [h2]
        simp [joinT]
theorem linesT_cases (l : List UInt8) : ∃ ini last, l = joinT ini ++ last ∧ 10 ∉ last ∧ (∀ x ∈ ini, 10 ∉ x) ∧ ((last = [] ∧ linesT l = ini) ∨ (last ≠ [] ∧ linesT l = ini ++ [last])) := by
  obtain ⟨ini, last, h1, h2, h3⟩ := split10_join l
  have hm := split10_mem (l := l)
  rw [h1] at hm
  refine ⟨ini, last, h2, h3, fun x hx => hm x (by simp [hx]), ?_⟩
  unfold linesT
  rw [h1]
  by_cases hl : last = []
  · subst hl
    exact .inl ⟨rfl, by simp⟩
  · exact .inr ⟨hl, by simp [hl]⟩
theorem split10_joinT (ini : List (List UInt8)) (last : List UInt8) (h : ∀ x ∈ ini, 10 ∉ x) (h2 : 10 ∉ last) : split10 (joinT ini ++ last) = ini ++ [last] := by
  induction ini with
  | nil => simpa [joinT] using split10_none h2
  | cons x ini ih =>
    have e : joinT (x :: ini) ++ last = x ++ 10 :: (joinT ini ++ last) := by simp [joinT]
    rw [e, split10_app _ (h x (by simp)), ih fun y hy => h y (by simp [hy])]; rfl
/-- joined lines are split as they were -/
theorem lines_join {l : List (List UInt8)} (h : ∀ x ∈ l, 10 ∉ x) : linesT (joinT l) = l := by
  have := split10_joinT l [] h (by simp)
  rw [List.append_nil] at this
  unfold linesT
  rw [this]
  simp
/-- a text's lines, joined, are it, or it with an LF behind -/
theorem join_lines (l : List UInt8) : joinT (linesT l) = l ∨ joinT (linesT l) = l ++ [10] := by
  obtain ⟨ini, last, h1, _, _, h4⟩ := linesT_cases l
  rcases h4 with ⟨rfl, h5⟩ | ⟨_, h5⟩
  · left; rw [h5, h1]; simp
  · right; rw [h5]
    conv => rhs; rw [h1]
    simp [joinT]
theorem linesT_no (l : List UInt8) : ∀ x ∈ linesT l, 10 ∉ x := by
  obtain ⟨ini, last, _, h2, h3, h4⟩ := linesT_cases l
  rcases h4 with ⟨_, h5⟩ | ⟨_, h5⟩
  · rw [h5]; exact h3
  · rw [h5]; intro x hx
    rcases List.mem_append.1 hx with hx | hx
    · exact h3 x hx
    · simp at hx; subst hx; exact h2
theorem count_join (ini : List (List UInt8)) (h : ∀ x ∈ ini, 10 ∉ x) : (joinT ini).count 10 = ini.length := by
  induction ini with
  | nil => rfl
  | cons x ini ih =>
    have e : joinT (x :: ini) = x ++ 10 :: joinT ini := by simp [joinT]
    rw [e, List.count_append, List.count_cons_self, ih fun y hy => h y (by simp [hy]), List.count_eq_zero.2 (h x (by simp))]
    simp
/-- as many lines as LFs, and one more -/
theorem lines_count (l : List UInt8) : (linesT l).length = l.count 10 + (if l = [] ∨ l.getLast? = some 10 then 0 else 1) := by
  obtain ⟨ini, last, h1, h2, h3, h4⟩ := linesT_cases l
  have hc : l.count 10 = ini.length := by
    rw [h1, List.count_append, count_join ini h3, List.count_eq_zero.2 h2]; omega
  rcases h4 with ⟨rfl, h5⟩ | ⟨h0, h5⟩
  · rw [h5, hc]
    have : l = [] ∨ l.getLast? = some 10 := by
      rw [h1, List.append_nil]
      rcases ini.eq_nil_or_concat with rfl | ⟨i2, x, rfl⟩
      · exact .inl rfl
      · right; simp [joinT]
    rw [if_pos this]; rfl
  · rw [h5, hc]
    have : ¬ (l = [] ∨ l.getLast? = some 10) := by
      rintro (h | h)
      · rw [h1] at h; exact h0 (List.append_eq_nil_iff.1 h).2
      · rw [h1, List.getLast?_append] at h
        cases hl : last.getLast? with
        | none => exact h0 (List.getLast?_eq_none_iff.1 hl)
        | some b =>
          rw [hl] at h
          simp at h
          subst h
          exact h2 (List.mem_of_getLast? hl)
    rw [if_neg this]; simp
theorem joinT_app (a b : List (List UInt8)) : joinT (a ++ b) = joinT a ++ joinT b := by simp [joinT]
theorem joinT_len (l : List (List UInt8)) : (joinT l).length = (l.map (fun x => x.length + 1)).sum := by
  induction l with
  | nil => rfl
  | cons x l ih => simp only [joinT, List.flatMap_cons, List.length_append, List.map_cons, List.sum_cons, List.length_singleton] at *; omega

/-! ## the kit's Split -/
theorem index10 (l : List UInt8) : (10 ∉ l ∧ Lib.index l [10] = -1) ∨ ∃ a r, l = a ++ 10 :: r ∧ 10 ∉ a ∧ Lib.index l [10] = a.length := by
  induction l with
  | nil => exact .inl ⟨by simp, rfl⟩
  | cons b l ih =>
    by_cases hb : b = 10
    · subst hb
      exact .inr ⟨[], l, rfl, by simp, by simp [Lib.index]⟩
    · have e : Lib.index (b :: l) [10] = if Lib.index l [10] == -1 then -1 else Lib.index l [10] + 1 := by
        rw [Lib.index, if_neg]
        simp only [List.isPrefixOf, Bool.and_eq_true, beq_iff_eq, and_true]
        exact fun e => hb e.symm
      rcases ih with ⟨h1, h2⟩ | ⟨a, r, rfl, h1, h2⟩
      · exact .inl ⟨by simp only [List.mem_cons, not_or]; exact ⟨fun e => hb e.symm, h1⟩, by rw [e, h2]; rfl⟩
      · refine .inr ⟨b :: a, r, rfl, by simp only [List.mem_cons, not_or]; exact ⟨fun e => hb e.symm, h1⟩, ?_⟩
        rw [e, h2, if_neg (by simp)]
        simp
theorem split_kit : ∀ (k : Nat) (s : ByteArray), Lib.countB s ⟨#[10]⟩ = k → (Lib.splitB ⟨#[10]⟩ 0 k s).map L = split10 (L s) := by
  intro k
  induction k with
  | zero =>
    intro s hk
    rw [Lib.splitB_zero]
    rcases index10 (L s) with ⟨h1, _⟩ | ⟨a, r, h1, h2, h3⟩
    · rw [split10_none h1]; rfl
    · have := Lib.countB_hit s ⟨#[10]⟩ a.length (Nat.le_refl _) h3
      omega
  | succ k ih =>
    intro s hk
    rcases index10 (L s) with ⟨h1, h2⟩ | ⟨a, r, h1, h2, h3⟩
    · have := Lib.countB_miss s ⟨#[10]⟩ h2
      omega
    · have hc := Lib.countB_hit s ⟨#[10]⟩ a.length (Nat.le_refl _) h3
      rw [Lib.splitB_hit ⟨#[10]⟩ 0 k s a.length h3, List.map_cons, ih _ (by omega), L_extract, L_extract]
      have hl : (L s).length = s.size := length_L s
      rw [← hl, List.take_length, h1, split10_app r h2]
      have e1 : List.drop 0 (List.take (a.length + 0) (a ++ 10 :: r)) = a := by simp
      have e2 : List.drop (a.length + (⟨#[10]⟩ : ByteArray).size) (a ++ 10 :: r) = r := by
        show List.drop (a.length + 1) (a ++ 10 :: r) = r
        rw [List.drop_append, List.drop_eq_nil_of_le (by omega)]; simp
      rw [e1, e2]
end Go.Proofs.YtfjapjoomnallaaGreatDoor
