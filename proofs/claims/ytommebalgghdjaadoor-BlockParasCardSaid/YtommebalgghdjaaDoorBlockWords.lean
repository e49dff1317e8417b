/-
  Lines that begin with a letter: they begin nothing but a paragraph.
-/
import Derived.Test.YtommebalgghdjaaDoorBlockSpec
import Derived.Test.YtommebalgghdjaaDoorMarkLaws
namespace Go.Proofs.YtommebalgghdjaaDoor
set_option linter.unusedVariables false

/-- a line that begins with a small letter -/
def Fl (s : Ln) : Prop := ∃ b t, s = b :: t ∧ 97 ≤ b.toNat ∧ b.toNat ≤ 122
/-- a letter -/
def isLetter (b : UInt8) : Bool := decide (97 ≤ b.toNat) && decide (b.toNat ≤ 122)
/-- a word -/
def Wd (s : Ln) : Prop := s ≠ [] ∧ ∀ b ∈ s, isLetter b = true
theorem letter_ne {b : UInt8} (h : 97 ≤ b.toNat ∧ b.toNat ≤ 122) (c : UInt8) (hc : c.toNat < 97 ∨ 122 < c.toNat) : b ≠ c := by
  rintro rfl; omega
theorem Wd.fl {s : Ln} (h : Wd s) : Fl s := by
  obtain ⟨h0, h1⟩ := h
  cases s with
  | nil => exact absurd rfl h0
  | cons b t =>
    have := h1 b (by simp)
    unfold isLetter at this
    rw [Bool.and_eq_true, decide_eq_true_eq, decide_eq_true_eq] at this
    exact ⟨b, t, rfl, this⟩
theorem Fl.no {s : Ln} (h : Fl s) : NoBlank s := by
  obtain ⟨b, t, rfl, hb⟩ := h
  intro c hc
  injection hc with hc
  subst hc
  exact ⟨letter_ne hb 32 (by decide), letter_ne hb 9 (by decide)⟩
theorem Fl.rest {s : Ln} (h : Fl s) : restT s = s := restT_of_no h.no
theorem Fl.col {s : Ln} (h : Fl s) : colT 0 s = 0 := colT_no h.no 0
theorem Fl.blank {s : Ln} (h : Fl s) : blankT s = false := by
  have h1 := h.rest
  obtain ⟨b, t, rfl, hb⟩ := h
  have e1 : b ≠ 32 := letter_ne hb 32 (by decide)
  have e2 : b ≠ 9 := letter_ne hb 9 (by decide)
  unfold blankT
  first | (rw [h1]; simp) | simp [e1, e2]
theorem Fl.heading {s : Ln} (h : Fl s) : headingT s = none := by
  have h1 := h.rest
  obtain ⟨b, t, rfl, hb⟩ := h
  have e1 : b ≠ 35 := letter_ne hb 35 (by decide)
  have h0 : rowT 35 (b :: t) = 0 := by unfold rowT; simp [e1]
  unfold headingT
  simp only [h1, h0]
  rw [if_neg (by omega)]
theorem Fl.rule {s : Ln} (h : Fl s) : ruleT s = false := by
  have h1 := h.rest
  obtain ⟨b, t, rfl, hb⟩ := h
  have e1 : b ≠ 45 := letter_ne hb 45 (by decide)
  have e2 : b ≠ 42 := letter_ne hb 42 (by decide)
  have e3 : b ≠ 95 := letter_ne hb 95 (by decide)
  unfold ruleT
  simp only [h1]
  simp [e1, e2, e3]
theorem Fl.fence {s : Ln} (h : Fl s) : fenceT s = none := by
  have h1 := h.rest
  obtain ⟨b, t, rfl, hb⟩ := h
  have e1 : b ≠ 96 := letter_ne hb 96 (by decide)
  have e2 : b ≠ 126 := letter_ne hb 126 (by decide)
  unfold fenceT
  simp only [h1]
  split
  · rw [if_neg (by simp [e1, e2])]
  · rfl
theorem Fl.quote {s : Ln} (h : Fl s) : quoteT s = none := by
  have h1 := h.rest
  obtain ⟨b, t, rfl, hb⟩ := h
  have e1 : b ≠ 62 := letter_ne hb 62 (by decide)
  unfold quoteT
  simp only [h1]
  split
  · split
    · rename_i r he
      injection he with he _
      exact absurd he e1
    · rfl
  · rfl
theorem Fl.item {s : Ln} (h : Fl s) : itemT s = none := by
  have h1 := h.rest
  obtain ⟨b, t, rfl, hb⟩ := h
  have e1 : b ≠ 45 := letter_ne hb 45 (by decide)
  have e2 : b ≠ 43 := letter_ne hb 43 (by decide)
  have e3 : b ≠ 42 := letter_ne hb 42 (by decide)
  have h0 : digT (b :: t) = [] := by
    unfold digT
    rw [show (b :: t).take 9 = b :: t.take 8 from rfl, List.takeWhile_cons]
    have : isD b = false := by unfold isD; simp; omega
    rw [this]; rfl
  unfold itemT
  simp only [h1, h0, List.length_nil, List.drop_zero]
  split
  · rw [if_neg (by simp [e1, e2, e3])]
  · rfl
theorem Fl.html {s : Ln} (h : Fl s) : htmlT s = false := by
  have h1 := h.rest
  obtain ⟨b, t, rfl, hb⟩ := h
  have e1 : b ≠ 60 := letter_ne hb 60 (by decide)
  unfold htmlT
  simp only [h1]
  cases t with
  | nil => simp
  | cons c t => simp [e1]
theorem Fl.under {s : Ln} (h : Fl s) : underT s = 0 := by
  have h1 := h.rest
  obtain ⟨b, t, rfl, hb⟩ := h
  have e1 : b ≠ 61 := letter_ne hb 61 (by decide)
  have e2 : b ≠ 45 := letter_ne hb 45 (by decide)
  have e3 : b ≠ 32 := letter_ne hb 32 (by decide)
  have e4 : b ≠ 9 := letter_ne hb 9 (by decide)
  obtain ⟨x, hx⟩ : ∃ x, Lib.trimRightS (b :: t) [32, 9] = x := ⟨_, rfl⟩
  have hbx : b ∈ x := by
    rw [← hx]
    unfold Lib.trimRightS
    rw [List.mem_reverse, List.reverse_cons]
    have : ∀ (l : List UInt8), b ∈ (l ++ [b]).dropWhile (fun c => ([32, 9] : List UInt8).contains c) := by
      intro l
      induction l with
      | nil => rw [List.nil_append, List.dropWhile_cons, if_neg (by simp [e3, e4])]; simp
      | cons y l ih =>
        rw [List.cons_append, List.dropWhile_cons]
        split
        · exact ih
        · simp
    exact this _
  unfold underT
  simp only [h1, hx]
  split
  · rfl
  · rw [if_neg (by rw [trimB_nil]; exact fun h => e1 (h b hbx)), if_neg (by rw [trimB_nil]; exact fun h => e2 (h b hbx))]
theorem Fl.ends {s : Ln} (h : Fl s) (d : Nat) : endsT d s = false := by
  unfold endsT quotesT listsT
  simp [h.blank, h.fence, h.heading, h.rule, h.quote, h.item]
/-- it begins a paragraph -/
theorem Fl.next {s : Ln} (h : Fl s) (rc : Nat → List Ln → List BlockT) (d : Nat) (t : List Ln) : nextT rc d s t = ([paraB d (s :: (paraGo d t).1) (paraGo d t).2.1], (paraGo d t).2.2) := by
  unfold nextT quotesT listsT
  simp [h.blank, h.fence, h.heading, h.rule, h.quote, h.item, h.html, h.col, h.rest]

theorem paraGo_words {l : List Ln} (h : ∀ x ∈ l, Fl x) (d : Nat) (r : List Ln) : paraGo d (l ++ r) = (l ++ (paraGo d r).1, (paraGo d r).2.1, (paraGo d r).2.2) := by
  induction l with
  | nil => rfl
  | cons x l ih =>
    have hx := h x (by simp)
    rw [List.cons_append, paraGo, hx.under, if_neg (by omega), hx.ends, if_neg (by decide), ih fun y hy => h y (by simp [hy]), hx.rest]
    rfl
theorem blank_under {s : Ln} (h : blankT s = true) : underT s = 0 := by
  unfold blankT at h
  have h0 : restT s = [] := by
    first | simpa using h | (unfold restT; rw [dropWhile_nil]; simpa using h)
  unfold underT
  simp [h0, Lib.trimRightS]
theorem paraGo_blank {s : Ln} (h : blankT s = true) (d : Nat) (r : List Ln) : paraGo d (s :: r) = ([], 0, s :: r) := by
  rw [paraGo, blank_under h, if_neg (by omega), if_pos (by unfold endsT; rw [h]; simp)]
theorem paraGo_nil (d : Nat) : paraGo d [] = ([], 0, []) := rfl
theorem next_blank {s : Ln} (h : blankT s = true) (rc : Nat → List Ln → List BlockT) (d : Nat) (t : List Ln) : nextT rc d s t = ([], t) := by
  unfold nextT; rw [if_pos h]
theorem parse_blank {s : Ln} (h : blankT s = true) (t : List Ln) : parseT (s :: t) = parseT t := by
  unfold parseT; rw [allT_step, next_blank h]; rfl
theorem parse_words {x : Ln} {l : List Ln} (hx : Fl x) (h : ∀ y ∈ l, Fl y) (r : List Ln) : parseT (x :: (l ++ r)) = paraB 0 (x :: (l ++ (paraGo 0 r).1)) (paraGo 0 r).2.1 :: parseT (paraGo 0 r).2.2 := by
  unfold parseT
  rw [allT_step, hx.next, paraGo_words h]
  rfl
theorem joinLF_cons (x : Ln) {l : List Ln} (h : l ≠ []) : joinLF (x :: l) = x ++ 10 :: joinLF l := by
  cases l with
  | nil => exact absurd rfl h
  | cons y t => rfl
theorem joinLF_last {l : List Ln} (h : ∀ x ∈ l, Wd x) (hn : l ≠ []) : ∃ b, (joinLF l).getLast? = some b ∧ isLetter b = true := by
  induction l with
  | nil => exact absurd rfl hn
  | cons x l ih =>
    by_cases hl : l = []
    · subst hl
      obtain ⟨h0, h1⟩ := h x (by simp)
      show ∃ b, x.getLast? = some b ∧ _
      rw [List.getLast?_eq_some_getLast h0]
      exact ⟨_, rfl, h1 _ (List.getLast_mem h0)⟩
    · obtain ⟨b, hb, hb2⟩ := ih (fun y hy => h y (by simp [hy])) hl
      refine ⟨b, ?_, hb2⟩
      rw [joinLF_cons x hl, List.getLast?_append, List.getLast?_cons, hb]
      rfl
theorem letter_cs {b : UInt8} (h : isLetter b = true) : ([32, 9] : List UInt8).contains b = false := by
  unfold isLetter at h
  rw [Bool.and_eq_true, decide_eq_true_eq, decide_eq_true_eq] at h
  exact cs_no ⟨letter_ne h 32 (by decide), letter_ne h 9 (by decide)⟩
theorem paraB_words {l : List Ln} (h : ∀ x ∈ l, Wd x) (hn : l ≠ []) (d lv : Nat) : paraB d l lv = ⟨if 0 < lv then 2 else 1, d, lv, false, joinLF l, []⟩ := by
  obtain ⟨b, hb, hb2⟩ := joinLF_last h hn
  have := trimRightS_app (joinLF l) [] [32, 9] (by simp) (fun c hc => by
    rw [hb] at hc; injection hc with hc; subst hc; exact letter_cs hb2)
  rw [List.append_nil] at this
  unfold paraB
  rw [this]

/-! ## BlockParas -/
theorem paras_one {l : List Ln} (h : ∀ x ∈ l, Wd x) (hn : l ≠ []) : parseT l = [⟨1, 0, 0, false, joinLF l, []⟩] := by
  cases l with
  | nil => exact absurd rfl hn
  | cons x l =>
    have := parse_words (h x (by simp)).fl (l := l) (fun y hy => (h y (by simp [hy])).fl) []
    rw [List.append_nil, paraGo_nil] at this
    rw [this, List.append_nil, paraB_words h hn]
    rfl
theorem paras_two {l m : List Ln} (s : Ln) (hs : blankT s = true) (h : ∀ x ∈ l, Wd x) (hn : l ≠ []) (h2 : ∀ x ∈ m, Wd x) (hn2 : m ≠ []) : parseT (l ++ s :: m) = [⟨1, 0, 0, false, joinLF l, []⟩, ⟨1, 0, 0, false, joinLF m, []⟩] := by
  cases l with
  | nil => exact absurd rfl hn
  | cons x l =>
    have := parse_words (h x (by simp)).fl (l := l) (fun y hy => (h y (by simp [hy])).fl) (s :: m)
    rw [paraGo_blank hs] at this
    rw [List.cons_append, this, List.append_nil, paraB_words h hn, parse_blank hs, paras_one h2 hn2]
    rfl
/-! ## BlockUnder -/
theorem under_heads {x : Ln} (hx : Wd x) {s : Ln} {lv : Nat} (hs : underT s = lv) (hl : 0 < lv) (r : List Ln) : parseT (x :: s :: r) = ⟨2, 0, lv, false, x, []⟩ :: parseT r := by
  have := parse_words hx.fl (l := []) (by simp) (s :: r)
  have e : paraGo 0 (s :: r) = ([], lv, r) := by rw [paraGo, hs, if_pos hl]
  rw [List.nil_append, e] at this
  rw [this, List.nil_append, paraB_words (by simpa using hx) (by simp), if_pos hl]
  rfl
theorem under_blank {x : Ln} (hx : Wd x) {s : Ln} (hs : blankT s = true) (r : List Ln) : parseT (x :: s :: r) = ⟨1, 0, 0, false, x, []⟩ :: parseT r := by
  have := parse_words hx.fl (l := []) (by simp) (s :: r)
  rw [List.nil_append, paraGo_blank hs] at this
  rw [this, List.nil_append, paraB_words (by simpa using hx) (by simp), parse_blank hs]
  rfl
theorem under_row' {n : Nat} {c : UInt8} (h : 1 ≤ n) (hc : c = 61 ∨ c = 45) : underT (List.replicate n c) = if c = 61 then 1 else 2 := by
  have := under_row (n := n) (m := 0) h hc
  simpa using this
theorem under_alone : ∀ n, n < 10 → 1 ≤ n → ∀ c ∈ ([61, 45] : List UInt8), ∃ b l, parseT [List.replicate n c] = b :: l ∧ b.kind ≠ 2 := by
  have h : ∀ n, n < 10 → 1 ≤ n → ∀ c ∈ ([61, 45] : List UInt8), (match parseT [List.replicate n c] with | [] => false | b :: _ => decide (b.kind ≠ 2)) = true := by decide +kernel
  intro n h1 h2 c hc
  have := h n h1 h2 c hc
  split at this
  · cases this
  · rename_i b l he
    exact ⟨b, l, he, of_decide_eq_true this⟩
end Go.Proofs.YtommebalgghdjaaDoor
