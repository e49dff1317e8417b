/-
  block: what its functions compute, as plain Lean over lines.
-/
import Derived.Test.YtommebalgghdjaaDoorMarkLaw
import Derived.Test.YtommebalgghdjaaDoorLineLaw
import Derived.Test.YtommebalgghdjaaDoorLineB
namespace Go.Proofs.YtommebalgghdjaaDoor
set_option linter.unusedVariables false

abbrev Ln := List UInt8
/-- a block -/
structure BlockT where
  kind : Int
  depth : Int
  n : Int
  tight : Bool
  text : List UInt8
  info : List UInt8
  deriving DecidableEq

def quotesT (depth : Nat) (s : Ln) : Bool := (quoteT s).isSome && decide (depth < 12)
def listsT (depth : Nat) (s : Ln) : Bool := (itemT s).isSome && decide (depth < 11)
/-- lines of so many columns, with the blank ones between them -/
def wideT (cols : Nat) (s : Ln) : Bool := blankT s || decide (cols ≤ colT 0 s)
def spanLines (cols : Nat) (l : List Ln) : List Ln := ((l.takeWhile (wideT cols)).reverse.dropWhile blankT).reverse
def codeB (depth : Nat) (info : List UInt8) (l : List Ln) (cols : Nat) : BlockT := ⟨6, depth, 0, false, joinT (l.map fun s => stripT s (cols : Int)), info⟩
/-- what an item's sign says ends a paragraph -/
def itemEnds (s : Ln) : Bool := match itemT s with
  | some (_, num, _, rest) => !blankT rest && (num == -1 || num == 1)
  | none => false
def endsT (depth : Nat) (s : Ln) : Bool := blankT s || (fenceT s).isSome || (headingT s).isSome || ruleT s || quotesT depth s || (listsT depth s && itemEnds s)
/-- a paragraph's lines behind its first, the level that is under it, what follows -/
def paraGo (depth : Nat) : List Ln → List Ln × Nat × List Ln
  | [] => ([], 0, [])
  | s :: t => if 0 < underT s then ([], underT s, t) else if endsT depth s then ([], 0, s :: t) else (restT s :: (paraGo depth t).1, (paraGo depth t).2.1, (paraGo depth t).2.2)
def joinLF : List Ln → List UInt8
  | [] => []
  | [x] => x
  | x :: y :: t => x ++ 10 :: joinLF (y :: t)
def paraB (depth : Nat) (l : List Ln) (level : Nat) : BlockT := ⟨if 0 < level then 2 else 1, depth, level, false, Lib.trimRightS (joinLF l) [32, 9], []⟩
/-- a list's items: their blocks, and how many lines they have -/
def itemsT (rc : Nat → List Ln → List BlockT) (depth : Nat) (sign : UInt8) : Nat → List Ln → List BlockT × Nat
  | 0, _ => ([], 0)
  | _ + 1, [] => ([], 0)
  | f + 1, s :: t => match itemT s with
    | none => ([], 0)
    | some (c, _, cols, rest) =>
      if c = sign then
        let body := spanLines cols t
        let t' := t.drop body.length
        let bl := (t'.takeWhile blankT).length
        let r := itemsT rc depth sign f (t'.drop bl)
        (⟨5, depth + 1, 0, false, [], []⟩ :: (rc (depth + 2) (rest :: body.map fun s => stripT s (cols : Int)) ++ r.1), if r.2 = 0 then body.length + 1 else body.length + 1 + bl + r.2)
      else ([], 0)
def listB (depth : Nat) (num : Int) (tight : Bool) (sign : UInt8) : BlockT := ⟨4, depth, num, tight, [], [sign]⟩
/-- the next block, and the lines behind it -/
def nextT (rc : Nat → List Ln → List BlockT) (depth : Nat) (s : Ln) (t : List Ln) : List BlockT × List Ln :=
  if blankT s then ([], t)
  else if 4 ≤ colT 0 s then ([codeB depth [] (spanLines 4 (s :: t)) 4], (s :: t).drop (spanLines 4 (s :: t)).length)
  else match fenceT s with
  | some (c, n, info) => ([codeB depth info (t.takeWhile fun x => !closesT x c n) (colT 0 s)], t.drop ((t.takeWhile fun x => !closesT x c n).length + 1))
  | none => match headingT s with
  | some (lv, tx) => ([⟨2, depth, lv, false, tx, []⟩], t)
  | none =>
  if ruleT s then ([⟨7, depth, 0, false, [], []⟩], t)
  else if quotesT depth s then (⟨3, depth, 0, false, [], []⟩ :: rc (depth + 1) (((s :: t).takeWhile fun x => (quoteT x).isSome).filterMap quoteT), (s :: t).drop ((s :: t).takeWhile fun x => (quoteT x).isSome).length)
  else if listsT depth s then match itemT s with
    | some (c, num, _, _) => (listB depth num (((s :: t).take (itemsT rc depth c (t.length + 1) (s :: t)).2).all fun x => !blankT x) c :: (itemsT rc depth c (t.length + 1) (s :: t)).1, (s :: t).drop (itemsT rc depth c (t.length + 1) (s :: t)).2)
    | none => ([], t)
  else if htmlT s then ([⟨8, depth, 0, false, joinT ((s :: t).takeWhile fun x => !blankT x), []⟩], (s :: t).drop ((s :: t).takeWhile fun x => !blankT x).length)
  else ([paraB depth (restT s :: (paraGo depth t).1) (paraGo depth t).2.1], (paraGo depth t).2.2)
def loopT (next : Ln → List Ln → List BlockT × List Ln) : Nat → List Ln → List BlockT
  | 0, _ => []
  | _ + 1, [] => []
  | f + 1, s :: t => (next s t).1 ++ loopT next f (next s t).2
/-- all blocks of lines: so many containers may lie in one another yet -/
def allT : Nat → Nat → List Ln → List BlockT
  | 0 => fun _ _ => []
  | f + 1 => fun depth ls => loopT (nextT (allT f) depth) ls.length ls
def parseT (ls : List Ln) : List BlockT := allT 14 0 ls

/-! ## how long a line may be -/
/-- a line's bytes, a tab for four -/
def mu : Ln → Nat
  | [] => 0
  | b :: t => (if b = 9 then 4 else 1) + mu t
theorem mu_len (l : Ln) : l.length ≤ mu l := by
  induction l with
  | nil => exact Nat.le_refl _
  | cons b t ih => unfold mu; split <;> simp <;> omega
theorem mu_le (l : Ln) : mu l ≤ 4 * l.length := by
  induction l with
  | nil => exact Nat.le_refl _
  | cons b t ih => unfold mu; split <;> simp <;> omega
theorem mu_app (a b : Ln) : mu (a ++ b) = mu a + mu b := by
  induction a with
  | nil => simp [mu]
  | cons x t ih => rw [List.cons_append, mu, mu, ih]; omega
theorem mu_drop (l : Ln) (k : Nat) : mu (l.drop k) ≤ mu l := by
  conv => rhs; rw [← List.take_append_drop k l, mu_app]
  omega
theorem mu_rep (k : Nat) : mu (List.replicate k 32) = k := by
  induction k with
  | zero => rfl
  | succ k ih => rw [List.replicate_succ, mu, ih, if_neg (by decide)]; omega
theorem mu_col (l : Ln) (c : Nat) : colT c l + mu (restT l) ≤ c + mu l := by
  induction l generalizing c with
  | nil => simp [colT, restT, mu]
  | cons b t ih =>
    unfold colT
    by_cases h1 : b = 32
    · have := ih (c + 1)
      have e : restT (b :: t) = restT t := by unfold restT; rw [h1]; rfl
      rw [if_pos h1, e, mu, if_neg (by rw [h1]; decide)]
      omega
    · rw [if_neg h1]
      by_cases h2 : b = 9
      · have := ih (c + (4 - c % 4))
        have e : restT (b :: t) = restT t := by unfold restT; rw [h2]; rfl
        rw [if_pos h2, e, mu, if_pos h2]
        omega
      · have e : restT (b :: t) = b :: t := by
          unfold restT
          rw [List.dropWhile_cons, if_neg (by simp [h1, h2])]
        rw [if_neg h2, e]
        omega
theorem mu_strip (l : Ln) (n : Int) : mu (stripT l n) ≤ mu l := by
  rw [stripT_eq, mu_app, mu_rep]
  have := mu_col l 0
  omega
theorem mu_rest (l : Ln) : mu (restT l) ≤ mu l := by have := mu_col l 0; omega
theorem mu_quote {l r : Ln} (h : quoteT l = some r) : mu r ≤ mu l := by
  unfold quoteT at h
  split at h
  · split at h
    · rename_i t he
      rw [← Option.some.inj h]
      have h1 := mu_rest l
      rw [he, mu, if_neg (by decide)] at h1
      have h2 : mu (Lib.trimPrefix t [32]) ≤ mu t := by
        unfold Lib.trimPrefix
        split
        · exact mu_drop _ _
        · exact Nat.le_refl _
      omega
    · cases h
  · cases h
theorem ite_some {α : Type} {p : Prop} [Decidable p] {a b : α} (h : (if p then some a else none) = some b) : p ∧ a = b := by
  by_cases hp : p
  · rw [if_pos hp] at h; exact ⟨hp, Option.some.inj h⟩
  · rw [if_neg hp] at h; cases h
theorem mu_item {l r : Ln} {c : UInt8} {v : Int} {cols : Nat} (h : itemT l = some (c, v, cols, r)) : mu r ≤ mu l := by
  unfold itemT at h
  simp only at h
  split at h
  · split at h
    · cases h
    · rename_i c' rest he
      obtain ⟨_, h2⟩ := ite_some h
      simp only [Prod.mk.injEq] at h2
      rw [← h2.2.2.2]
      have h1 := mu_drop (restT l) (digT (restT l)).length
      rw [he, mu] at h1
      have h3 := mu_drop rest (min (gapT rest) rest.length)
      have h4 := mu_rest l
      omega
  · cases h

/-! ## how many lines, how many blocks -/
theorem takeW_len {α : Type} (p : α → Bool) (l : List α) : (l.takeWhile p).length ≤ l.length := (List.takeWhile_sublist p).length_le
theorem spanLines_pre (cols : Nat) (l : List Ln) : ∃ r, l = spanLines cols l ++ r := by
  have h1 := List.takeWhile_append_dropWhile (p := wideT cols) (l := l)
  have h2 := List.takeWhile_append_dropWhile (p := blankT) (l := (l.takeWhile (wideT cols)).reverse)
  refine ⟨((l.takeWhile (wideT cols)).reverse.takeWhile blankT).reverse ++ l.dropWhile (wideT cols), ?_⟩
  unfold spanLines
  rw [← List.append_assoc, ← List.reverse_append, h2, List.reverse_reverse, h1]
theorem spanLines_len (cols : Nat) (l : List Ln) : (spanLines cols l).length ≤ l.length := by
  obtain ⟨r, h⟩ := spanLines_pre cols l
  have := congrArg List.length h
  simp at this; omega
theorem spanLines_pos {cols : Nat} {s : Ln} {t : List Ln} (h1 : blankT s = false) (h2 : cols ≤ colT 0 s) : 1 ≤ (spanLines cols (s :: t)).length := by
  have hw : wideT cols s = true := by unfold wideT; rw [decide_eq_true h2, Bool.or_true]
  unfold spanLines
  rw [List.takeWhile_cons, if_pos hw, List.reverse_cons]
  have : ∀ (l : List Ln), 1 ≤ ((l ++ [s]).dropWhile blankT).length := by
    intro l
    induction l with
    | nil => rw [List.nil_append, List.dropWhile_cons, h1]; simp
    | cons x l ih =>
      rw [List.cons_append, List.dropWhile_cons]
      split
      · exact ih
      · simp
  have := this ((t.takeWhile (wideT cols)).reverse)
  simpa using this
theorem paraGo_len (depth : Nat) (l : List Ln) : (paraGo depth l).2.2.length ≤ l.length ∧ (paraGo depth l).1.length ≤ l.length := by
  induction l with
  | nil => simp [paraGo]
  | cons s t ih =>
    unfold paraGo
    split
    · simp
    · split
      · simp
      · simp; omega
theorem itemsT_len (rc : Nat → List Ln → List BlockT) (depth : Nat) (sign : UInt8) (m : Nat) (hrc : ∀ ls, (rc (depth + 2) ls).length ≤ m * ls.length) : ∀ (f : Nat) (l : List Ln), (itemsT rc depth sign f l).2 ≤ l.length ∧ (itemsT rc depth sign f l).1.length ≤ (m + 1) * (itemsT rc depth sign f l).2
  | 0, l => by simp [itemsT]
  | f + 1, [] => by simp [itemsT]
  | f + 1, s :: t => by
    unfold itemsT
    split
    · simp
    · rename_i c num cols rest he
      split
      · simp only
        have h1 := spanLines_len cols t
        have h2 := takeW_len blankT (t.drop (spanLines cols t).length)
        obtain ⟨h3, h4⟩ := itemsT_len rc depth sign m hrc f ((t.drop (spanLines cols t).length).drop ((t.drop (spanLines cols t).length).takeWhile blankT).length)
        have h5 := hrc (rest :: (spanLines cols t).map fun s => stripT s (cols : Int))
        simp only [List.length_cons, List.length_map] at h5
        generalize (itemsT rc depth sign f ((t.drop (spanLines cols t).length).drop ((t.drop (spanLines cols t).length).takeWhile blankT).length)) = r at *
        obtain ⟨bs, k⟩ := r
        simp only [List.length_drop] at h2 h3 h4 ⊢
        have e : m * ((spanLines cols t).length + 1) = m * (spanLines cols t).length + m := by rw [Nat.mul_add]; omega
        rw [e] at h5
        split
        · rename_i hk
          subst hk
          refine ⟨by simp; omega, ?_⟩
          simp only [List.length_cons, List.length_append]
          have e2 : (m + 1) * ((spanLines cols t).length + 1) = m * (spanLines cols t).length + (spanLines cols t).length + m + 1 := by rw [Nat.add_mul, Nat.mul_add]; omega
          rw [e2]; omega
        · refine ⟨by simp; omega, ?_⟩
          simp only [List.length_cons, List.length_append]
          generalize (List.takeWhile blankT (t.drop (spanLines cols t).length)).length = bl at *
          have e2 : (m + 1) * ((spanLines cols t).length + 1 + bl + k) = m * (spanLines cols t).length + (spanLines cols t).length + m + 1 + (m + 1) * bl + (m + 1) * k := by
            rw [Nat.mul_add, Nat.mul_add, Nat.mul_add, Nat.add_mul m 1 (spanLines cols t).length]; omega
          rw [e2]; omega
      · simp
/-- each block takes lines; it makes few -/
theorem nextT_len (rc : Nat → List Ln → List BlockT) (depth : Nat) (m : Nat) (hrc : ∀ d ls, (rc d ls).length ≤ m * ls.length) (s : Ln) (t : List Ln) :
    (nextT rc depth s t).2.length ≤ t.length ∧ (nextT rc depth s t).1.length + (m + 2) * (nextT rc depth s t).2.length ≤ (m + 2) * (t.length + 1) := by
  have base : ∀ (k : Nat), k ≤ t.length → 1 + (m + 2) * k ≤ (m + 2) * (t.length + 1) := fun k hk => by
    have := Nat.mul_le_mul_left (m + 2) hk
    rw [Nat.mul_add]; omega
  have zero : ∀ (k : Nat), k ≤ t.length → 0 + (m + 2) * k ≤ (m + 2) * (t.length + 1) := fun k hk => by have := base k hk; omega
  unfold nextT
  split
  · exact ⟨Nat.le_refl _, zero _ (Nat.le_refl _)⟩
  rename_i hb
  split
  · rename_i hc
    have h1 := spanLines_pos (t := t) (by simpa using hb) hc
    have h2 : ((s :: t).drop (spanLines 4 (s :: t)).length).length ≤ t.length := by rw [List.length_drop, List.length_cons]; omega
    exact ⟨h2, base _ h2⟩
  split
  · have h2 : ∀ k, (t.drop (k + 1)).length ≤ t.length := fun k => by rw [List.length_drop]; omega
    exact ⟨h2 _, base _ (h2 _)⟩
  split
  · exact ⟨Nat.le_refl _, base _ (Nat.le_refl _)⟩
  split
  · exact ⟨Nat.le_refl _, base _ (Nat.le_refl _)⟩
  split
  · rename_i hq
    have hs : (quoteT s).isSome = true := by unfold quotesT at hq; rw [Bool.and_eq_true] at hq; exact hq.1
    obtain ⟨q, hq'⟩ : ∃ q, (s :: t).takeWhile (fun x => (quoteT x).isSome) = q := ⟨_, rfl⟩
    rw [hq']
    have hq1 : 1 ≤ q.length := by rw [← hq', List.takeWhile_cons, if_pos hs]; simp
    have hq2 : q.length ≤ t.length + 1 := by rw [← hq']; exact takeW_len _ _
    have h3 := hrc (depth + 1) (q.filterMap quoteT)
    have h4 : (q.filterMap quoteT).length ≤ q.length := List.length_filterMap_le _ _
    have h5 := Nat.mul_le_mul_left m h4
    simp only [List.length_drop, List.length_cons]
    refine ⟨by omega, ?_⟩
    obtain ⟨k, hk⟩ : ∃ k, t.length + 1 = q.length + k := ⟨t.length + 1 - q.length, by omega⟩
    rw [hk, Nat.add_sub_cancel_left, Nat.mul_add (m + 2), Nat.add_mul m 2 q.length]
    omega
  split
  · split
    · rename_i c num cols rest he
      obtain ⟨h1, h2⟩ := itemsT_len rc depth c m (fun ls => hrc _ ls) (t.length + 1) (s :: t)
      have h0 : 1 ≤ (itemsT rc depth c (t.length + 1) (s :: t)).2 := by
        unfold itemsT
        rw [he]
        simp only [if_true]
        split <;> omega
      generalize itemsT rc depth c (t.length + 1) (s :: t) = r at *
      obtain ⟨bs, k⟩ := r
      simp only [List.length_drop, List.length_cons] at h0 h1 h2 ⊢
      refine ⟨by omega, ?_⟩
      obtain ⟨j, hj⟩ : ∃ j, t.length + 1 = k + j := ⟨t.length + 1 - k, by omega⟩
      rw [hj, Nat.add_sub_cancel_left, Nat.mul_add (m + 2)]
      have e : (m + 2) * k = (m + 1) * k + k := by rw [show m + 2 = m + 1 + 1 from rfl, Nat.add_mul (m + 1) 1 k]; omega
      rw [e]; omega
    · exact ⟨Nat.le_refl _, zero _ (Nat.le_refl _)⟩
  split
  · obtain ⟨q, hq'⟩ : ∃ q, (s :: t).takeWhile (fun x => !blankT x) = q := ⟨_, rfl⟩
    rw [hq']
    have hq1 : 1 ≤ q.length := by rw [← hq', List.takeWhile_cons, if_pos (by simpa using hb)]; simp
    have h2 : ((s :: t).drop q.length).length ≤ t.length := by rw [List.length_drop, List.length_cons]; omega
    exact ⟨h2, base _ h2⟩
  · have h := (paraGo_len depth t).1
    exact ⟨h, base _ h⟩
theorem loopT_len (next : Ln → List Ln → List BlockT × List Ln) (m : Nat) (h : ∀ s t, (next s t).2.length ≤ t.length ∧ (next s t).1.length + m * (next s t).2.length ≤ m * (t.length + 1)) : ∀ (f : Nat) (l : List Ln), (loopT next f l).length ≤ m * l.length
  | 0, l => by simp [loopT]
  | f + 1, [] => by simp [loopT]
  | f + 1, s :: t => by
    unfold loopT
    have h1 := (h s t).2
    have h2 := loopT_len next m h f (next s t).2
    rw [List.length_append, List.length_cons]
    omega
theorem allT_len : ∀ (f depth : Nat) (l : List Ln), (allT f depth l).length ≤ 2 * f * l.length
  | 0, _, _ => by simp [allT]
  | f + 1, depth, l => by
    unfold allT
    have := loopT_len (nextT (allT f) depth) (2 * f + 2) (nextT_len (allT f) depth (2 * f) (fun d ls => allT_len f d ls)) l.length l
    exact this
/-- more rounds than lines change nothing -/
theorem loopT_more (next : Ln → List Ln → List BlockT × List Ln) (h : ∀ s t, (next s t).2.length ≤ t.length) : ∀ (f g : Nat) (l : List Ln), l.length ≤ f → l.length ≤ g → loopT next f l = loopT next g l
  | 0, 0, _, _, _ => rfl
  | 0, g + 1, [], _, _ => rfl
  | f + 1, 0, [], _, _ => rfl
  | f + 1, g + 1, [], _, _ => rfl
  | f + 1, g + 1, s :: t, hf, hg => by
    unfold loopT
    have := h s t
    simp only [List.length_cons] at hf hg
    rw [loopT_more next h f g (next s t).2 (by omega) (by omega)]
  | 0, _ + 1, _ :: _, hf, _ => by simp at hf
  | _ + 1, 0, _ :: _, _, hg => by simp at hg
/-- one block more -/
theorem allT_step (f depth : Nat) (s : Ln) (t : List Ln) : allT (f + 1) depth (s :: t) = (nextT (allT f) depth s t).1 ++ allT (f + 1) depth (nextT (allT f) depth s t).2 := by
  have hl : ∀ s t, (nextT (allT f) depth s t).2.length ≤ t.length := fun s t => (nextT_len (allT f) depth (2 * f) (fun d ls => allT_len f d ls) s t).1
  have e : allT (f + 1) depth (s :: t) = loopT (nextT (allT f) depth) (t.length + 1) (s :: t) := rfl
  rw [e]
  unfold loopT
  rw [loopT_more _ hl t.length _ _ (hl s t) (Nat.le_refl _)]
  rfl
theorem allT_nil (f depth : Nat) : allT f depth [] = [] := by
  cases f <;> rfl
end Go.Proofs.YtommebalgghdjaaDoor
