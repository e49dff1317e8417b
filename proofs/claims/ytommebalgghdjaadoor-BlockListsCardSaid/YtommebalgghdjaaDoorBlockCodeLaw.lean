/-
  Plain laws of code, raw HTML, indented code, blank lines.
-/
import Derived.Test.YtommebalgghdjaaDoorBlockWords
namespace Go.Proofs.YtommebalgghdjaaDoor
set_option linter.unusedVariables false

/-! ## fences -/
theorem fence_next {s t : List UInt8} {c : UInt8} {n : Nat} {info : List UInt8} {ts : List Ln} (hb : blankT s = false) (hc : ¬ 4 ≤ colT 0 s) (hf : fenceT s = some (c, n, info)) (rc : Nat → List Ln → List BlockT) (d : Nat) :
    nextT rc d s ts = ([codeB d info (ts.takeWhile fun x => !closesT x c n) (colT 0 s)], ts.drop ((ts.takeWhile fun x => !closesT x c n).length + 1)) := by
  unfold nextT
  rw [hb, if_neg (by decide), if_neg hc, hf]
theorem takeW_all {α : Type} {p : α → Bool} {l : List α} (h : ∀ x ∈ l, p x = true) (r : List α) : (l ++ r).takeWhile p = l ++ r.takeWhile p := by
  induction l with
  | nil => rfl
  | cons x l ih => rw [List.cons_append, List.takeWhile_cons, if_pos (h x (by simp)), ih fun y hy => h y (by simp [hy])]; rfl
theorem takeW_all' {α : Type} {p : α → Bool} {l : List α} (h : ∀ x ∈ l, p x = true) : l.takeWhile p = l := by
  have := takeW_all h []
  simpa using this
theorem takeW_of_len {c : UInt8} {n : Nat} {l : List UInt8} (h : n ≤ rowT c l) : l.take n = List.replicate n c := by
  unfold rowT at h
  induction l generalizing n with
  | nil => simp at h; subst h; rfl
  | cons x l ih =>
    rw [List.takeWhile_cons] at h
    cases n with
    | zero => rfl
    | succ n =>
      split at h
      · rename_i hx
        have hx : x = c := by simpa using hx
        subst hx
        rw [List.take_succ_cons, List.replicate_succ, ih (by simpa using h)]
      · simp at h
theorem restT_drop (l : List UInt8) : ∃ i, restT l = l.drop i ∧ i + (restT l).length = l.length := by
  induction l with
  | nil => exact ⟨0, rfl, rfl⟩
  | cons x l ih =>
    unfold restT at ih ⊢
    rw [List.dropWhile_cons]
    split
    · obtain ⟨i, h1, h2⟩ := ih
      exact ⟨i + 1, by rw [h1]; rfl, by simp; omega⟩
    · exact ⟨0, rfl, by simp⟩
/-- without five signs in a row nothing closes -/
theorem closes_five {x : Ln} (h : ∀ i, i + 4 < x.length → (x.drop i).take 5 ≠ [126, 126, 126, 126, 126]) : closesT x 126 (5 : Nat) = false := by
  obtain ⟨i, h1, h2⟩ := restT_drop x
  unfold closesT
  by_cases hr : 5 ≤ rowT 126 (restT x)
  · have hlen : 5 ≤ (restT x).length := by
      have : rowT 126 (restT x) ≤ (restT x).length := by unfold rowT; exact (List.takeWhile_sublist _).length_le
      omega
    have := takeW_of_len hr
    rw [h1] at this
    exact absurd this (h i (by omega))
  · have : decide (max ((5 : Nat) : Int) 1 ≤ (rowT 126 (restT x) : Int)) = false := decide_eq_false (by omega)
    rw [this]; simp
def tildes (info : List UInt8) : Ln := [126, 126, 126, 126, 126, 32] ++ info
theorem tildes_fence {info : List UInt8} (h : ∀ b ∈ info, isLetter b = true) : fenceT (tildes info) = some (126, 5, info) := by
  have := fence_law (n := 5) (c := 126) (l := info) (by decide) (.inr rfl) (fun b hb => by
    have := h b hb
    unfold isLetter at this
    rw [Bool.and_eq_true, decide_eq_true_eq, decide_eq_true_eq] at this
    exact ⟨letter_ne this 32 (by decide), letter_ne this 9 (by decide), letter_ne this 35 (by decide), letter_ne this 96 (by decide)⟩)
  rw [if_pos (by decide)] at this
  exact this
theorem tildes_col (info : List UInt8) : colT 0 (tildes info) = 0 := colT_no (fun b hb => by injection hb with hb; subst hb; decide) 0
theorem tildes_blank (info : List UInt8) : blankT (tildes info) = false := by unfold blankT tildes; simp
def endB : Ln := [101, 110, 100]
theorem end_parse : parseT [endB] = [⟨1, 0, 0, false, endB, []⟩] := by decide +kernel
theorem codeB_zero (d : Nat) (info : List UInt8) (l : List Ln) : codeB d info l 0 = ⟨6, d, 0, false, joinT (l.map expandT), info⟩ := by
  unfold codeB
  have : (fun s => stripT s ((0 : Nat) : Int)) = expandT := funext fun s => strip_zero s
  rw [this]
theorem codes_open {info : List UInt8} {l : List Ln} (hi : ∀ b ∈ info, isLetter b = true) (h : ∀ x ∈ l, closesT x 126 (5 : Nat) = false) : parseT (tildes info :: l) = [⟨6, 0, 0, false, joinT (l.map expandT), info⟩] := by
  unfold parseT
  rw [allT_step, fence_next (t := []) (tildes_blank info) (by rw [tildes_col]; decide) (tildes_fence hi), tildes_col, takeW_all' (fun x hx => by rw [h x hx]; rfl), List.drop_of_length_le (by omega), allT_nil, codeB_zero]
  rfl
theorem five_closes : closesT [126, 126, 126, 126, 126] 126 (5 : Nat) = true := by decide +kernel
theorem codes_shut {info : List UInt8} {l : List Ln} (hi : ∀ b ∈ info, isLetter b = true) (h : ∀ x ∈ l, closesT x 126 (5 : Nat) = false) : parseT (tildes info :: (l ++ [[126, 126, 126, 126, 126], endB])) = [⟨6, 0, 0, false, joinT (l.map expandT), info⟩, ⟨1, 0, 0, false, endB, []⟩] := by
  have e := end_parse
  unfold parseT at e ⊢
  have e2 : (l ++ [[126, 126, 126, 126, 126], endB]).takeWhile (fun x => !closesT x 126 (5 : Nat)) = l := by
    rw [takeW_all (fun x hx => by rw [h x hx]; rfl), List.takeWhile_cons, five_closes]; simp
  rw [allT_step, fence_next (t := []) (tildes_blank info) (by rw [tildes_col]; decide) (tildes_fence hi), tildes_col, e2, codeB_zero]
  have e3 : (l ++ [[126, 126, 126, 126, 126], endB]).drop (l.length + 1) = [endB] := by
    rw [List.drop_append, List.drop_of_length_le (by omega), show l.length + 1 - l.length = 1 by omega]; rfl
  rw [e3, e]
  rfl

/-! ## raw HTML -/
def tagB : Ln := [60, 98, 62]
theorem raw_next (rc : Nat → List Ln → List BlockT) (ts : List Ln) : nextT rc 0 tagB ts = ([⟨8, 0, 0, false, joinT (tagB :: ts.takeWhile fun x => !blankT x), []⟩], ts.drop (ts.takeWhile fun x => !blankT x).length) := by
  have h0 : blankT tagB = false := by decide +kernel
  have h1 : ¬ 4 ≤ colT 0 tagB := by decide +kernel
  have h2 : fenceT tagB = none := by decide +kernel
  have h3 : headingT tagB = none := by decide +kernel
  have h4 : ruleT tagB = false := by decide +kernel
  have h5 : quotesT 0 tagB = false := by decide +kernel
  have h6 : listsT 0 tagB = false := by decide +kernel
  have h7 : htmlT tagB = true := by decide +kernel
  unfold nextT
  simp [h0, h1, h2, h3, h4, h5, h6, h7]
theorem raws_law {l : List Ln} (h : ∀ x ∈ l, blankT x = false) : parseT (tagB :: (l ++ [[], endB])) = [⟨8, 0, 0, false, joinT (tagB :: l), []⟩, ⟨1, 0, 0, false, endB, []⟩] := by
  have e := end_parse
  have eb : blankT ([] : Ln) = true := by decide
  have e2 : (l ++ [[], endB]).takeWhile (fun x => !blankT x) = l := by
    rw [takeW_all (fun x hx => by rw [h x hx]; rfl), List.takeWhile_cons, eb]; simp
  have e3 := parse_blank eb [endB]
  rw [e] at e3
  unfold parseT at e3 ⊢
  rw [allT_step, raw_next, e2, List.drop_left, e3]
  rfl

/-! ## indented code -/
theorem span_all {cols : Nat} {l : List Ln} (h : ∀ x ∈ l, wideT cols x = true) (hl : ∀ x, l.getLast? = some x → blankT x = false) : spanLines cols l = l := by
  unfold spanLines
  rw [takeW_all' h]
  cases hr : l.reverse with
  | nil => have : l = [] := by simpa using hr
           rw [this]; rfl
  | cons y t =>
    have hy : l.getLast? = some y := by
      have := congrArg List.reverse hr
      rw [List.reverse_reverse] at this
      rw [this]; simp
    rw [List.dropWhile_cons, hl y hy, ← hr]
    simp
def four (x : Ln) : Ln := [32, 32, 32, 32] ++ x
theorem four_four (x : Ln) : 4 ≤ colT 0 (four x) := four_col 4 x (Nat.le_refl _)
theorem notab (x : Ln) (h : 9 ∉ x) : ∃ k r, x = List.replicate k 32 ++ r ∧ NoBlank r := by
  induction x with
  | nil => exact ⟨0, [], rfl, fun b hb => by cases hb⟩
  | cons b x ih =>
    by_cases hb : b = 32
    · obtain ⟨k, r, e, hr⟩ := ih fun h' => h (by simp [h'])
      exact ⟨k + 1, r, by rw [hb, e]; rfl, hr⟩
    · exact ⟨0, b :: x, rfl, fun c hc => by injection hc with hc; subst hc; exact ⟨hb, fun e => h (by simp [e])⟩⟩
theorem four_strip {x : Ln} (h : 9 ∉ x) : stripT (four x) ((4 : Nat) : Int) = x := by
  obtain ⟨k, r, rfl, hr⟩ := notab x h
  have e : four (List.replicate k 32 ++ r) = List.replicate (4 + k) 32 ++ r := by
    rw [← List.replicate_append_replicate, List.append_assoc]; rfl
  obtain ⟨c1, c2⟩ := col_blanks (n := 4 + k) hr
  rw [stripT_eq, e, c1, c2]
  have : 4 + k - min (max ((4 : Nat) : Int) 0).toNat (4 + k) = k := by omega
  rw [this]
theorem blankT_app (a b : Ln) : blankT (a ++ b) = (blankT a && blankT b) := by unfold blankT; rw [List.all_append]
theorem four_blank (x : Ln) : blankT (four x) = blankT x := by unfold four; rw [blankT_app]; rfl
theorem indents_law {l : List Ln} (hn : l ≠ []) (h9 : ∀ x ∈ l, 9 ∉ x) (h1 : ∀ x, l.head? = some x → blankT x = false) (h2 : ∀ x, l.getLast? = some x → blankT x = false) : parseT (l.map four) = [⟨6, 0, 0, false, joinT l, []⟩] := by
  have hspan : spanLines 4 (l.map four) = l.map four := span_all (fun x hx => by
    obtain ⟨y, _, rfl⟩ := List.mem_map.1 hx
    unfold wideT; rw [decide_eq_true (four_four y), Bool.or_true]) (fun x hx => by
    rw [List.getLast?_map] at hx
    cases hl : l.getLast? with
    | none => rw [hl] at hx; cases hx
    | some y =>
      rw [hl] at hx
      have : four y = x := by simpa using hx
      rw [← this, four_blank]; exact h2 y hl)
  cases l with
  | nil => exact absurd rfl hn
  | cons x l =>
    have hb : blankT (four x) = false := by rw [four_blank]; exact h1 x rfl
    have hnext : ∀ rc, nextT rc 0 (four x) (l.map four) = ([⟨6, 0, 0, false, joinT (x :: l), []⟩], []) := by
      intro rc
      unfold nextT
      rw [hb, if_neg (by decide), if_pos (four_four x)]
      rw [List.map_cons] at hspan
      rw [hspan, List.drop_length]
      unfold codeB
      have : ((four x :: l.map four).map fun s => stripT s ((4 : Nat) : Int)) = x :: l := by
        rw [← List.map_cons (f := four), List.map_map]
        conv => rhs; rw [← List.map_id (x :: l)]
        exact List.map_congr_left fun y hy => four_strip (h9 y hy)
      rw [this]
      rfl
    unfold parseT
    rw [List.map_cons, allT_step, hnext, allT_nil]
    rfl
end Go.Proofs.YtommebalgghdjaaDoor
